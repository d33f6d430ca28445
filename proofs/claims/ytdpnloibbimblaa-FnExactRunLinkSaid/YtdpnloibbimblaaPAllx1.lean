/- Proved here: contracts of functions of the given program, or lemmas on them, for the laws of this seat. Written by xprint.py, a program of this session, on the ground of the kit's print; parts by hand: wip/x/ext. -/
import Derived.Test.YtdpnloibbimblaaPAllx0
namespace Go.Proofs.Ytdpnloibbimblaa.PAll
open Go.RowKit Go.Proofs.YtdpnloibbimblaaW.PrintWords Go.Proofs.YtdpnloibbimblaaW.PrintLast Go.Proofs.YtdpnloibbimblaaW.PrintMore
attribute [local go_sem] max2_int min2_int max_two min_two max_three min_three max_four min_four   -- for this text's walks alone
set_option linter.unusedVariables false
set_option linter.unusedSimpArgs false

/-! ### impl_within: function 42 -/
def impl_within.f (a0 : Int) (a1 : Int) (a2 : Int) : Option (Bool):=if a1 ≤ a0 then (some (decide (a0 ≤ a2))) else (some false)
set_option maxHeartbeats 8000000 in
set_option maxRecDepth 100000 in
theorem impl_within.calls (a0 : Int) (a1 : Int) (a2 : Int) (r : Bool) (w : World) (h : impl_within.f a0 a1 a2 = some r) :
  Calls Try.prog 42 #[.int .i64 a0,.int .i64 a1,.int .i64 a2] w fun e w' => e = .returned (.bool r) ∧ Drawn0 w w':=by
 have H : (if a1 ≤ a0 then (some (decide (a0 ≤ a2))) else (some false)) = some r:=h
 clear h
 by_cases c4 : a1 ≤ a0
 ·rw [if_pos c4] at H
  have c4b0 : decide (a1 ≤ a0) = true:=decide_eq_true c4
  clear c4
  obtain rfl:=Option.some.inj H
  go_enter Try.func42,Try.ntmps42
  go_wp2
  go_ret
  exact ⟨by first|rfl|(simp;done)|(simp [*];done),by repeat (first|exact Drawn0.refl _|apply Drawn0.step)⟩
 ·rw [if_neg c4] at H
  have c4b0 : decide (a1 ≤ a0) = false:=decide_eq_false c4
  clear c4
  obtain rfl:=Option.some.inj H
  go_enter Try.func42,Try.ntmps42
  go_wp2
  go_ret
  exact ⟨by first|rfl|(simp;done)|(simp [*];done),by repeat (first|exact Drawn0.refl _|apply Drawn0.step)⟩

-- LIB preds
/-- What is asked of a function value that answers a bool: at every x, in every world in which all that lay in w lies as it lay, it answers p x and turns nothing that lies there. -/
def PredB {α : Type} (P : Program) (g : Nat) (lb : Array Value) (enc : α → Value) (p : α → Bool) (w : World) : Prop :=
  ∀ (W : World) (x : α),Below w.heap.size w W → Calls P g (#[enc x] ++ lb) W fun e w' => e = .returned (.bool (p x)) ∧ Below W.heap.size W w'
theorem PredB.later {α : Type} {P : Program} {g : Nat} {lb : Array Value} {enc : α → Value} {p : α → Bool} {w W : World} (h : PredB P g lb enc p w) (hb : Below w.heap.size w W) : PredB P g lb enc p W :=
  fun W' x hb' => h W' x (hb.trans (hb'.mono hb.size))
/-- The place of the first x of which p holds, from k on; -1. -/
def idxL {α : Type} (p : α → Bool) : List α → Nat → Int
  | [],_ => -1
  | x :: xs,k => if p x then (k : Int) else idxL p xs (k + 1)
theorem idxL_iff {α : Type} (p : α → Bool) (l : List α) (k : Nat) : 0 ≤ idxL p l k ↔ l.any p = true:=by
  induction l generalizing k with
  | nil => exact ⟨fun h => absurd h (by simp [idxL]),fun h => absurd h (by simp)⟩
  | cons x xs ih =>
    by_cases hp : p x = true
    · have e : idxL p (x :: xs) k = (k : Int):=if_pos hp
      rw [e]
      exact ⟨fun _ => by simp [hp],fun _ => by omega⟩
    · have e : idxL p (x :: xs) k = idxL p xs (k + 1):=if_neg hp
      rw [e,ih]
      simp [Bool.eq_false_iff.mpr hp]
theorem idxL_any {α : Type} (p : α → Bool) (l : List α) (k : Nat) : decide (0 ≤ idxL p l k) = l.any p:=by
  have h:=idxL_iff p l k
  cases ha : l.any p with
  | true => exact decide_eq_true (h.2 ha)
  | false => exact decide_eq_false (fun h0 => by rw [h.1 h0] at ha;cases ha)
theorem idxL_drop {α : Type} [Inhabited α] (p : α → Bool) (l : List α) (k : Nat) (h : k < l.length) : idxL p (l.drop k) k = if p (l.getD k default) then (k : Int) else idxL p (l.drop (k + 1)) (k + 1):=by
  rw [List.drop_eq_getElem_cons h,idxL]
  simp [List.getD_eq_getElem?_getD,h]
theorem below_step {w W W' : World} (h : Below w.heap.size w W) (h' : Below W.heap.size W W') : Below w.heap.size w W':=h.trans (h'.mono h.size)
theorem rd_getD (l : List Int) (k : Nat) : rd l (k : Int) = l.getD k default:=by simp [rd]

-- LIB containsint
set_option maxHeartbeats 4000000 in
set_option maxRecDepth 100000 in
theorem x_IndexFunc_int (p : Int → Bool) (g : Nat) (lb : Array Value) (eg : ∀ args w, (callFunc g args).run Try.prog w = .ok (.enter g args) w) (A0 : Option Addr) (c0 : Nat) (l0 : List Int) (w : World)
    (hp : PredB Try.prog g lb (Value.int .i64) p w) (hr0 : Kd.C (Kd.int .i64) w A0 l0.length l0) :
    Calls Try.prog 93 #[.slice A0 l0.length c0,.func (.func g) #[] lb] w fun e w' => e = .returned (.int .i64 (idxL p l0 0)) ∧ Below w.heap.size w w':=by
  have hlen:=Kd.C_max hr0
  have HR:=Aside0.mk hr0
  have HP:=Aside0.mk hp
  clear hr0 hp
  go_enter Try.func93,Try.ntmps93
  go_wp2
  go_loopg [5,8] l0.length (fun gg _ s8 wr => ∃ kk : Nat,kk ≤ l0.length ∧ l0.length - kk ≤ gg ∧ s8 = .int .i64 kk ∧ Aside0 (Below w.heap.size w wr) ∧ Aside0 (idxL p (l0.drop kk) kk = idxL p l0 0))
  case atStart => exact ⟨0,Nat.zero_le _,by omega,rfl,⟨Below.refl _ w⟩,⟨rfl⟩⟩
  case round =>
    obtain ⟨kk,hkk,hg,rfl,BW,HI⟩:=hrel
    by_cases hlt : kk < l0.length
    · obtain ⟨ad,e,hx⟩:=Kd.at_int (Kd.C_below HR.out BW.out) (kk : Int) (by omega) (by omega)
      cases e
      rw [Int.toNat_natCast] at hx
      obtain ⟨y,hy⟩ : ∃ y,y = rd l0 (kk : Int):=⟨_,rfl⟩
      rw [← hy] at hx
      have hcall:=HP.out wr y BW.out
      have HD : Aside0 (idxL p l0 0 = if p y then (kk : Int) else idxL p (l0.drop (kk + 1)) (kk + 1)):=⟨by rw [← HI.out,idxL_drop p l0 kk hlt,hy,rd_getD]⟩
      clear hy
      cases hq : p y with
      | true =>
        rw [hq] at hcall
        have HQ:=Aside0.mk hq
        clear hq
        go_wp2_with (go_at_fn g;refine hcall.mono ?_;rintro e w' ⟨rfl,hb'⟩)
        go_ret
        exact ⟨by rw [HD.out,HQ.out];rfl,below_step BW.out hb'⟩
      | false =>
        rw [hq] at hcall
        have HQ:=Aside0.mk hq
        clear hq
        go_wp2_with (go_at_fn g;refine hcall.mono ?_;rintro e w' ⟨rfl,hb'⟩)
        go_roundg (l0.length - (kk + 1))
        case measure => omega
        case rel => exact ⟨kk + 1,by omega,by omega,by go_num,⟨below_step BW.out hb'⟩,⟨by rw [HD.out,HQ.out];rfl⟩⟩
    · have e : kk = l0.length:=by omega
      subst e
      go_wp2
      go_ret
      exact ⟨by rw [← HI.out,List.drop_length];rfl,BW.out⟩
set_option maxHeartbeats 4000000 in
set_option maxRecDepth 100000 in
theorem x_ContainsFunc_int (p : Int → Bool) (g : Nat) (lb : Array Value) (eg : ∀ args w, (callFunc g args).run Try.prog w = .ok (.enter g args) w) (A0 : Option Addr) (c0 : Nat) (l0 : List Int) (w : World)
    (hp : PredB Try.prog g lb (Value.int .i64) p w) (hr0 : Kd.C (Kd.int .i64) w A0 l0.length l0) :
    Calls Try.prog 77 #[.slice A0 l0.length c0,.func (.func g) #[] lb] w fun e w' => e = .returned (.bool (l0.any p)) ∧ Below w.heap.size w w':=by
  have hcall:=x_IndexFunc_int p g lb eg A0 c0 l0 w hp hr0
  have HA:=Aside0.mk (idxL_any p l0 0)
  obtain ⟨z,hz⟩ : ∃ z,z = idxL p l0 0:=⟨_,rfl⟩
  rw [← hz] at hcall HA
  clear hp hr0 hz
  go_enter Try.func77,Try.ntmps77
  go_wp2_with (go_at_call 93;refine hcall.mono ?_;rintro e w' ⟨rfl,hb'⟩)
  go_ret
  exact ⟨by rw [← HA.out];rfl,hb'⟩

-- LIB allint
set_option maxHeartbeats 4000000 in
set_option maxRecDepth 100000 in
theorem x_all_int_1 {p : Int → Bool} {g : Nat} {lb : Array Value} (eg : ∀ args w, (callFunc g args).run Try.prog w = .ok (.enter g args) w) {b : Nat} {w : World}
    (hp : PredB Try.prog g lb (Value.int .i64) p w) (hb : b < w.heap.size) (hc : w.cell? ⟨b,0,none⟩ = some (.func (.func g) #[] lb)) :
    PredB Try.prog 78 #[.pointer (some ⟨b,0,none⟩)] (Value.int .i64) (fun x => !p x) w:=by
  intro W x hB
  have hc':=(hB.cell (p:=⟨b,0,none⟩) hb).trans hc
  have hcall:=hp W x hB
  clear hp hc hB hb
  go_enter Try.func78,Try.ntmps78
  go_wp2_with (go_at_fn g;refine hcall.mono ?_;rintro e w' ⟨rfl,hb'⟩)
  go_ret
  exact ⟨rfl,hb'⟩
theorem any_not_all {α : Type} (p : α → Bool) (l : List α) : (!l.any fun x => !p x) = l.all p:=by
  induction l with
  | nil => rfl
  | cons x xs ih => simp only [List.any_cons,List.all_cons,Bool.not_or,Bool.not_not,ih]
set_option maxHeartbeats 4000000 in
set_option maxRecDepth 100000 in
theorem x_all_int (p : Int → Bool) (g : Nat) (lb : Array Value) (eg : ∀ args w, (callFunc g args).run Try.prog w = .ok (.enter g args) w) (A0 : Option Addr) (c0 : Nat) (l0 : List Int) (w : World)
    (hp : PredB Try.prog g lb (Value.int .i64) p w) (hr0 : Kd.C (Kd.int .i64) w A0 l0.length l0) :
    Calls Try.prog 59 #[.slice A0 l0.length c0,.func (.func g) #[] lb] w fun e w' => e = .returned (.bool (l0.all p)) ∧ Below w.heap.size w w':=by
  have hmf : ∀ (fn : Fn) (first cap : Array Value) (w : World),(Instr.makeFunc fn first cap).run Try.prog w = .ok (.func fn first cap) w:=fun _ _ _ _ => rfl
  have hb0 : Below w.heap.size w (w.alloc (.cells #[.func (.func g) #[] lb] 80)):=(Below.refl _ w).alloc (Nat.le_refl _) _
  have hcall:=x_ContainsFunc_int (fun x => !p x) 78 #[.pointer (some ⟨w.heap.size,0,none⟩)] (enters_of Try.func78 (by kernel_rfl) rfl) A0 c0 l0 _ (x_all_int_1 eg (hp.later hb0) (by simp) (by simp)) (Kd.C_below hr0 hb0)
  have HB0:=Aside0.mk hb0
  clear hp hr0 hb0
  go_enter Try.func59,Try.ntmps59
  go_wp2_with (go_at_call 77;refine hcall.mono ?_;rintro e w' ⟨rfl,hb'⟩)
  go_ret
  exact ⟨by rw [any_not_all];rfl,below_step HB0.out hb'⟩

-- LIB pbase
theorem wrap_eq {x : Int} (h1 : -9223372036854775808 ≤ x) (h2 : x ≤ 9223372036854775807) : wrap64 x = x:=by unfold wrap64;omega
theorem wrap_succ {i n : Nat} (h : i < n) (hn : n ≤ 9223372036854775807) : wrap64 ((i : Int) + 1) = ((i + 1 : Nat) : Int):=by rw [wrap_eq (by omega) (by omega)];rfl
theorem rd_get (l : List Int) (i : Nat) (h : i < l.length) : rd l (i : Int) = l[i]:=by simp [rd,List.getD_eq_getElem?_getD,h]

-- LIB within
theorem win_is (n a b : Int) : impl_within.f n a b = some (decide (a ≤ n) && decide (n ≤ b)):=by
  unfold impl_within.f
  by_cases h : a ≤ n <;> simp [h]
theorem x_win (n a b : Int) (W : World) : Calls Try.prog 42 #[.int .i64 n,.int .i64 a,.int .i64 b] W fun e w' => e = .returned (.bool (decide (a ≤ n) && decide (n ≤ b))) ∧ Below W.heap.size W w' :=
  (impl_within.calls n a b _ W (win_is n a b)).mono fun e w' ⟨he,hd⟩ => ⟨he,hd.below⟩

/-! ### impl_FatesValid: function 43 (by hand) -/
/-- A fate;fates. -/
def fateB (x : Int) : Bool:=decide (0 ≤ x) && decide (x ≤ 4)
def fatesB (l : List Int) : Bool:=decide (l.length ≤ 200) && l.all fateB
set_option maxHeartbeats 4000000 in
set_option maxRecDepth 100000 in
theorem x_FatesValid_1 (w : World) : PredB Try.prog 60 #[] (Value.int .i64) fateB w:=by
 intro W x hB
 have hw:=x_win x 0 4 W
 have HZ : Aside0 (fateB x = (decide (0 ≤ x) && decide (x ≤ 4))):=⟨rfl⟩
 clear hB
 generalize fateB x = z at HZ ⊢
 generalize (decide (0 ≤ x) && decide (x ≤ 4)) = z2 at HZ hw
 go_enter Try.func60,Try.ntmps60
 go_wp2_with fail
 refine hw.mono ?_
 rintro e w' ⟨rfl,hb'⟩
 go_wp2_with fail
 go_ret
 exact ⟨by rw [HZ.out];rfl,hb'⟩
def impl_FatesValid.f (l0 : List Int) : Option (Bool) :=
 some (fatesB l0)
set_option maxHeartbeats 4000000 in
set_option maxRecDepth 100000 in
theorem impl_FatesValid.calls (A0 : Option Addr) (c0 : Nat) (l0 : List Int) (r : Bool) (w : World) (hr0 : Kd.C (Kd.int .i64) w A0 l0.length l0) (hc0 : l0.length ≤ c0) (h : impl_FatesValid.f l0 = some r) :
  Calls Try.prog 43 #[.slice A0 l0.length c0] w fun e w' => e = .returned (.bool r) ∧ Below w.heap.size w w':=by
 obtain rfl:=Option.some.inj h
 have hall:=x_all_int fateB 60 #[] (enters_of Try.func60 (by kernel_rfl) rfl) A0 c0 l0 w (x_FatesValid_1 w) hr0
 have HV : Aside0 (fatesB l0 = (decide (l0.length ≤ 200) && l0.all fateB)):=⟨rfl⟩
 have hlen:=Kd.C_max hr0
 generalize fatesB l0 = z at HV ⊢
 generalize l0.all fateB = t at HV hall
 clear h hr0 hc0
 by_cases c1 : (l0.length : Int) ≤ 200
 ·have HC1 : Aside0 (decide (l0.length ≤ 200) = true):=⟨by simp;omega⟩
  go_enter Try.func43,Try.ntmps43
  go_wp2_with (go_at_call 59;refine hall.mono ?_;rintro e w1 ⟨rfl,hb1⟩)
  go_ret
  exact ⟨by rw [HV.out,HC1.out];simp,hb1⟩
 ·have HC1 : Aside0 (decide (l0.length ≤ 200) = false):=⟨by simp;omega⟩
  go_enter Try.func43,Try.ntmps43
  go_wp2_with fail
  go_ret
  exact ⟨by rw [HV.out,HC1.out];simp,Below.refl _ _⟩

-- LIB alldata
/-- What is asked of a function value that answers a bool of a row's length alone. -/
def PredN (P : Program) (g : Nat) (lb : Array Value) (p : Nat → Bool) (w : World) : Prop :=
  ∀ (W : World) (A : Option Addr) (n c : Nat),Below w.heap.size w W → Calls P g (#[.slice A n c] ++ lb) W fun e w' => e = .returned (.bool (p n)) ∧ Below W.heap.size W w'
theorem PredN.later {P : Program} {g : Nat} {lb : Array Value} {p : Nat → Bool} {w W : World} (h : PredN P g lb p w) (hb : Below w.heap.size w W) : PredN P g lb p W :=
  fun W' A n c hb' => h W' A n c (hb.trans (hb'.mono hb.size))
theorem rdL_get (l : List (List Int)) (i : Nat) (h : i < l.length) : rd_L4 l (i : Int) = l[i]:=by simp [rd_L4,List.getD_eq_getElem?_getD,h]
theorem any_not_alld {α : Type} (p : α → Bool) (l : List α) : (!l.any fun x => !p x) = l.all p:=by
  induction l with
  | nil => rfl
  | cons x xs ih => simp only [List.any_cons,List.all_cons,Bool.not_or,Bool.not_not,ih]
set_option maxHeartbeats 4000000 in
set_option maxRecDepth 100000 in
theorem x_IndexFunc_dat (p : Nat → Bool) (g : Nat) (lb : Array Value) (eg : ∀ args w, (callFunc g args).run Try.prog w = .ok (.enter g args) w) (A0 : Option Addr) (c0 : Nat) (l0 : List (List Int)) (w : World)
    (hp : PredN Try.prog g lb p w) (hr0 : Kd.C (Kd.slice 5 (Kd.int .u8)) w A0 l0.length l0) :
    Calls Try.prog 79 #[.slice A0 l0.length c0,.func (.func g) #[] lb] w fun e w' => e = .returned (.int .i64 (idxL (fun x : List Int => p x.length) l0 0)) ∧ Below w.heap.size w w':=by
  have hlen:=Kd.C_max hr0
  have HR:=Aside0.mk hr0
  have HP:=Aside0.mk hp
  clear hr0 hp
  go_enter Try.func79,Try.ntmps79
  go_wp2
  go_loopg [5,8] l0.length (fun gg _ s8 wr => ∃ kk : Nat,kk ≤ l0.length ∧ l0.length - kk ≤ gg ∧ s8 = .int .i64 kk ∧ Aside0 (Below w.heap.size w wr) ∧ Aside0 (idxL (fun x : List Int => p x.length) (l0.drop kk) kk = idxL (fun x : List Int => p x.length) l0 0))
  case atStart => exact ⟨0,Nat.zero_le _,by omega,rfl,⟨Below.refl _ w⟩,⟨rfl⟩⟩
  case round =>
    obtain ⟨kk,hkk,hg,rfl,BW,HI⟩:=hrel
    by_cases hlt : kk < l0.length
    · obtain ⟨ad,A1,c1,e,hx,hcx,_⟩:=at_L4 (Kd.C_below HR.out BW.out) (kk : Int) (by omega) (by omega)
      cases e
      rw [Int.toNat_natCast,rdL_get l0 kk hlt] at hx
      have hcall:=HP.out wr A1 l0[kk].length c1 BW.out
      have HD : Aside0 (idxL (fun x : List Int => p x.length) l0 0 = if p l0[kk].length then (kk : Int) else idxL (fun x : List Int => p x.length) (l0.drop (kk + 1)) (kk + 1)):=⟨by rw [← HI.out,List.drop_eq_getElem_cons hlt,idxL]⟩
      generalize l0[kk].length = y at hx hcall HD
      clear hcx
      cases hq : p y with
      | true =>
        rw [hq] at hcall
        have HQ:=Aside0.mk hq
        clear hq
        go_wp2_with (go_at_fn g;refine hcall.mono ?_;rintro e w' ⟨rfl,hb'⟩)
        go_ret
        exact ⟨by rw [HD.out,HQ.out];rfl,below_step BW.out hb'⟩
      | false =>
        rw [hq] at hcall
        have HQ:=Aside0.mk hq
        clear hq
        go_wp2_with (go_at_fn g;refine hcall.mono ?_;rintro e w' ⟨rfl,hb'⟩)
        go_roundg (l0.length - (kk + 1))
        case measure => omega
        case rel => exact ⟨kk + 1,by omega,by omega,by go_num,⟨below_step BW.out hb'⟩,⟨by rw [HD.out,HQ.out];rfl⟩⟩
    · have e : kk = l0.length:=by omega
      subst e
      go_wp2
      go_ret
      exact ⟨by rw [← HI.out,List.drop_length];rfl,BW.out⟩
set_option maxHeartbeats 4000000 in
set_option maxRecDepth 100000 in
theorem x_ContainsFunc_dat (p : Nat → Bool) (g : Nat) (lb : Array Value) (eg : ∀ args w, (callFunc g args).run Try.prog w = .ok (.enter g args) w) (A0 : Option Addr) (c0 : Nat) (l0 : List (List Int)) (w : World)
    (hp : PredN Try.prog g lb p w) (hr0 : Kd.C (Kd.slice 5 (Kd.int .u8)) w A0 l0.length l0) :
    Calls Try.prog 63 #[.slice A0 l0.length c0,.func (.func g) #[] lb] w fun e w' => e = .returned (.bool (l0.any fun x => p x.length)) ∧ Below w.heap.size w w':=by
  have hcall:=x_IndexFunc_dat p g lb eg A0 c0 l0 w hp hr0
  have HA:=Aside0.mk (idxL_any (fun x : List Int => p x.length) l0 0)
  obtain ⟨z,hz⟩ : ∃ z,z = idxL (fun x : List Int => p x.length) l0 0:=⟨_,rfl⟩
  rw [← hz] at hcall HA
  clear hp hr0 hz
  go_enter Try.func63,Try.ntmps63
  go_wp2_with (go_at_call 79;refine hcall.mono ?_;rintro e w' ⟨rfl,hb'⟩)
  go_ret
  exact ⟨by rw [← HA.out];rfl,hb'⟩
set_option maxHeartbeats 4000000 in
set_option maxRecDepth 100000 in
theorem x_all_dat_1 {p : Nat → Bool} {g : Nat} {lb : Array Value} (eg : ∀ args w, (callFunc g args).run Try.prog w = .ok (.enter g args) w) {b : Nat} {w : World}
    (hp : PredN Try.prog g lb p w) (hb : b < w.heap.size) (hc : w.cell? ⟨b,0,none⟩ = some (.func (.func g) #[] lb)) :
    PredN Try.prog 64 #[.pointer (some ⟨b,0,none⟩)] (fun x => !p x) w:=by
  intro W A n c hB
  have hc':=(hB.cell (p:=⟨b,0,none⟩) hb).trans hc
  have hcall:=hp W A n c hB
  clear hp hc hB hb
  go_enter Try.func64,Try.ntmps64
  go_wp2_with (go_at_fn g;refine hcall.mono ?_;rintro e w' ⟨rfl,hb'⟩)
  go_ret
  exact ⟨rfl,hb'⟩
set_option maxHeartbeats 4000000 in
set_option maxRecDepth 100000 in
theorem x_all_dat (p : Nat → Bool) (g : Nat) (lb : Array Value) (eg : ∀ args w, (callFunc g args).run Try.prog w = .ok (.enter g args) w) (A0 : Option Addr) (c0 : Nat) (l0 : List (List Int)) (w : World)
    (hp : PredN Try.prog g lb p w) (hr0 : Kd.C (Kd.slice 5 (Kd.int .u8)) w A0 l0.length l0) :
    Calls Try.prog 50 #[.slice A0 l0.length c0,.func (.func g) #[] lb] w fun e w' => e = .returned (.bool (l0.all fun x => p x.length)) ∧ Below w.heap.size w w':=by
  have hmf : ∀ (fn : Fn) (first cap : Array Value) (w : World),(Instr.makeFunc fn first cap).run Try.prog w = .ok (.func fn first cap) w:=fun _ _ _ _ => rfl
  have hb0 : Below w.heap.size w (w.alloc (.cells #[.func (.func g) #[] lb] 31)):=(Below.refl _ w).alloc (Nat.le_refl _) _
  have hcall:=x_ContainsFunc_dat (fun x => !p x) 64 #[.pointer (some ⟨w.heap.size,0,none⟩)] (enters_of Try.func64 (by kernel_rfl) rfl) A0 c0 l0 _ (x_all_dat_1 eg (hp.later hb0) (by simp) (by simp)) (Kd.C_below hr0 hb0)
  have HB0:=Aside0.mk hb0
  clear hp hr0 hb0
  go_enter Try.func50,Try.ntmps50
  go_wp2_with (go_at_call 63;refine hcall.mono ?_;rintro e w' ⟨rfl,hb'⟩)
  go_ret
  exact ⟨by rw [any_not_alld];rfl,below_step HB0.out hb'⟩

/-! ### impl_linkOk: function 31 (by hand) -/
/-- What a link may be run with. -/
def linkB (a0 : Int) (l1 : List (List Int)) (l2 l3 : List Int) (a4 : Int) : Bool :=
 (decide (1 ≤ a0) && decide (a0 ≤ 8)) && (decide (l1.length ≤ 60) && ((l1.all fun x => decide (x.length ≤ 597)) && (fatesB l2 && (fatesB l3 && (decide (0 ≤ a4) && decide (a4 ≤ 400))))))
set_option maxHeartbeats 4000000 in
set_option maxRecDepth 100000 in
theorem x_linkOk_1 (w : World) : PredN Try.prog 51 #[] (fun n => decide (n ≤ 597)) w:=by
 intro W A n c hB
 have HZ : Aside0 (decide ((n : Int) ≤ 597) = decide (n ≤ 597)):=⟨by by_cases h : n ≤ 597 <;> simp [h] <;> omega⟩
 clear hB
 go_enter Try.func51,Try.ntmps51
 go_wp2_with fail
 go_ret
 exact ⟨by rw [← HZ.out];rfl,Below.refl _ _⟩
def impl_linkOk.f (a0 : Int) (l1 : List (List Int)) (l2 : List Int) (l3 : List Int) (a4 : Int) : Option (Bool) :=
 some (linkB a0 l1 l2 l3 a4)
set_option maxHeartbeats 4000000 in
set_option maxRecDepth 100000 in
theorem impl_linkOk.calls (a0 : Int) (A1 : Option Addr) (c1 : Nat) (l1 : List (List Int)) (A2 : Option Addr) (c2 : Nat) (l2 : List Int) (A3 : Option Addr) (c3 : Nat) (l3 : List Int) (a4 : Int) (r : Bool) (w : World) (hr1 : Kd.C (Kd.slice 5 (Kd.int .u8)) w A1 l1.length l1) (hc1 : l1.length ≤ c1) (hr2 : Kd.C (Kd.int .i64) w A2 l2.length l2) (hc2 : l2.length ≤ c2) (hr3 : Kd.C (Kd.int .i64) w A3 l3.length l3) (hc3 : l3.length ≤ c3) (h : impl_linkOk.f a0 l1 l2 l3 a4 = some r) :
  Calls Try.prog 31 #[.int .i64 a0,.slice A1 l1.length c1,.slice A2 l2.length c2,.slice A3 l3.length c3,.int .i64 a4] w fun e w' => e = .returned (.bool r) ∧ Below w.heap.size w w':=by
 obtain rfl:=Option.some.inj h
 have hw:=fun W => x_win a0 1 8 W
 have hq:=fun W => x_win a4 0 400 W
 have ha:=fun W (hW : Below w.heap.size w W) => x_all_dat (fun n => decide (n ≤ 597)) 51 #[] (enters_of Try.func51 (by kernel_rfl) rfl) A1 c1 l1 W (x_linkOk_1 W) (cb_ hr1 hW)
 have hf:=fun W (hW : Below w.heap.size w W) => impl_FatesValid.calls A2 c2 l2 _ W (cb_ hr2 hW) hc2 rfl
 have hg:=fun W (hW : Below w.heap.size w W) => impl_FatesValid.calls A3 c3 l3 _ W (cb_ hr3 hW) hc3 rfl
 have hlen:=Kd.C_max hr1
 have HV : Aside0 (linkB a0 l1 l2 l3 a4 = ((decide (1 ≤ a0) && decide (a0 ≤ 8)) && (decide (l1.length ≤ 60) && ((l1.all fun x => decide (x.length ≤ 597)) && (fatesB l2 && (fatesB l3 && (decide (0 ≤ a4) && decide (a4 ≤ 400)))))))):=⟨rfl⟩
 generalize linkB a0 l1 l2 l3 a4 = z at HV ⊢
 generalize (decide (1 ≤ a0) && decide (a0 ≤ 8)) = z1 at HV hw
 generalize (l1.all fun x => decide (x.length ≤ 597)) = z3 at HV ha
 generalize fatesB l2 = z4 at HV hf
 generalize fatesB l3 = z5 at HV hg
 generalize (decide (0 ≤ a4) && decide (a4 ≤ 400)) = z6 at HV hq
 have HA:=mk_ ha
 have HF:=mk_ hf
 have HG:=mk_ hg
 have HQ:=mk_ hq
 clear h hr1 hc1 hr2 hc2 hr3 hc3 ha hf hg hq
 cases z1 with
 | false =>
  have HZ : Aside0 (z = false):=⟨by rw [HV.out];rfl⟩
  go_enter Try.func31,Try.ntmps31
  go_wp2_with fail
  refine (hw _).mono ?_
  rintro e w1 ⟨rfl,hb1⟩
  go_wp2_with fail
  go_ret
  exact ⟨by rw [HZ.out];rfl,hb1⟩
 | true =>
  rw [Bool.true_and] at HV
  by_cases c2 : l1.length ≤ 60
  ·have e2 : ((l1.length : Int) ≤ 60) = True:=eq_true (by omega)
   rw [decide_eq_true c2,Bool.true_and] at HV
   clear c2
   cases z3 with
   | false =>
    have HZ : Aside0 (z = false):=⟨by rw [HV.out];rfl⟩
    go_enter Try.func31,Try.ntmps31
    go_wp2_with fail
    refine (hw _).mono ?_
    rintro e w1 ⟨rfl,hb1⟩
    have HB1:=mk_ hb1
    have ha:=HA.out _ hb1
    clear hb1
    go_wp2_with fail
    refine ha.mono ?_
    rintro e w2 ⟨rfl,hb2⟩
    go_wp2_with fail
    go_ret
    exact ⟨by rw [HZ.out];rfl,(st_ HB1.out hb2)⟩
   | true =>
    rw [Bool.true_and] at HV
    cases z4 with
    | false =>
     have HZ : Aside0 (z = false):=⟨by rw [HV.out];rfl⟩
     go_enter Try.func31,Try.ntmps31
     go_wp2_with fail
     refine (hw _).mono ?_
     rintro e w1 ⟨rfl,hb1⟩
     have HB1:=mk_ hb1
     have ha:=HA.out _ hb1
     clear hb1
     go_wp2_with fail
     refine ha.mono ?_
     rintro e w2 ⟨rfl,hb2⟩
     have HB2:=mk_ (st_ HB1.out hb2)
     have hf:=HF.out _ HB2.out
     clear hb2 ha
     go_wp2_with fail
     refine hf.mono ?_
     rintro e w3 ⟨rfl,hb3⟩
     go_wp2_with fail
     go_ret
     exact ⟨by rw [HZ.out];rfl,(st_ HB2.out hb3)⟩
    | true =>
     rw [Bool.true_and] at HV
     cases z5 with
     | false =>
      have HZ : Aside0 (z = false):=⟨by rw [HV.out];rfl⟩
      go_enter Try.func31,Try.ntmps31
      go_wp2_with fail
      refine (hw _).mono ?_
      rintro e w1 ⟨rfl,hb1⟩
      have HB1:=mk_ hb1
      have ha:=HA.out _ hb1
      clear hb1
      go_wp2_with fail
      refine ha.mono ?_
      rintro e w2 ⟨rfl,hb2⟩
      have HB2:=mk_ (st_ HB1.out hb2)
      have hf:=HF.out _ HB2.out
      clear hb2 ha
      go_wp2_with fail
      refine hf.mono ?_
      rintro e w3 ⟨rfl,hb3⟩
      have HB3:=mk_ (st_ HB2.out hb3)
      have hg:=HG.out _ HB3.out
      clear hb3 hf
      go_wp2_with fail
      refine hg.mono ?_
      rintro e w4 ⟨rfl,hb4⟩
      go_wp2_with fail
      go_ret
      exact ⟨by rw [HZ.out];rfl,(st_ HB3.out hb4)⟩
     | true =>
      rw [Bool.true_and] at HV
      have HZ : Aside0 (z = z6):=⟨by rw [HV.out]⟩
      go_enter Try.func31,Try.ntmps31
      go_wp2_with fail
      refine (hw _).mono ?_
      rintro e w1 ⟨rfl,hb1⟩
      have HB1:=mk_ hb1
      have ha:=HA.out _ hb1
      clear hb1
      go_wp2_with fail
      refine ha.mono ?_
      rintro e w2 ⟨rfl,hb2⟩
      have HB2:=mk_ (st_ HB1.out hb2)
      have hf:=HF.out _ HB2.out
      clear hb2 ha
      go_wp2_with fail
      refine hf.mono ?_
      rintro e w3 ⟨rfl,hb3⟩
      have HB3:=mk_ (st_ HB2.out hb3)
      have hg:=HG.out _ HB3.out
      clear hb3 hf
      go_wp2_with fail
      refine hg.mono ?_
      rintro e w4 ⟨rfl,hb4⟩
      have HB4:=mk_ (st_ HB3.out hb4)
      have hq:=HQ.out w4
      clear hb4 hg
      go_wp2_with fail
      refine hq.mono ?_
      rintro e w5 ⟨rfl,hb5⟩
      go_wp2_with fail
      go_ret
      exact ⟨by rw [HZ.out];rfl,(st_ HB4.out hb5)⟩
  ·have e2 : ((l1.length : Int) ≤ 60) = False:=eq_false (by omega)
   have HZ : Aside0 (z = false):=⟨by rw [HV.out,decide_eq_false c2];rfl⟩
   clear HV c2
   go_enter Try.func31,Try.ntmps31
   go_wp2_with fail
   refine (hw _).mono ?_
   rintro e w1 ⟨rfl,hb1⟩
   go_wp2_with fail
   go_ret
   exact ⟨by rw [HZ.out];rfl,hb1⟩

/-! ### impl_isData: function 67 -/
def impl_isData.f (l0 : List Int) : Option (Bool):=some (decide ((l0.length : Int) ≤ 600))
set_option maxHeartbeats 8000000 in
set_option maxRecDepth 100000 in
theorem impl_isData.calls (A0 : Option Addr) (c0 : Nat) (l0 : List Int) (r : Bool) (w : World) (hr0 : Kd.C (Kd.int .u8) w A0 l0.length l0) (hc0 : l0.length ≤ c0) (h : impl_isData.f l0 = some r) :
  Calls Try.prog 67 #[.slice A0 l0.length c0] w fun e w' => e = .returned (.bool r) ∧ Drawn0 w w':=by
 have HR0:=mk_ hr0
 have HC0:=mk_ hc0
 clear hr0 hc0
 have H : (some (decide ((l0.length : Int) ≤ 600))) = some r:=h
 clear h
 obtain rfl:=Option.some.inj H
 go_enter Try.func67,Try.ntmps67
 go_wp2
 go_ret
 exact ⟨by first|rfl|(simp;done)|(simp [*];done),by repeat (first|exact Drawn0.refl _|apply Drawn0.step)⟩

/-! ### impl_CrcStep: function 80 -/
def impl_CrcStep.l0 : Nat → Int → Int → Option (Int)
 | 0,_,_ => none
 | k + 1,x0,x14 => if x14 < 8 then (if (x0 / 32768) = 1 then (impl_CrcStep.l0 k (Go.bits .xor .i64 (Go.bits .and .i64 (wrap64 (x0 * 2)) 65535) 4129) (wrap64 (x14 + 1))) else (impl_CrcStep.l0 k (Go.bits .and .i64 (wrap64 (x0 * 2)) 65535) (wrap64 (x14 + 1)))) else (some x0)
def impl_CrcStep.f (k : Nat) (a0 : Int) (a1 : Int) : Option (Int):=(impl_within.f a0 0 65535).bind fun t101 => (if t101 = true then (impl_CrcStep.l0 k (Go.bits .xor .i64 a0 (wrap64 ((wrap64 (a1)) * 256))) 0) else (some (-1)))
theorem impl_CrcStep.mono_l : ∀ k,(∀ y0 y1,LeO (impl_CrcStep.l0 k y0 y1) (impl_CrcStep.l0 (k + 1) y0 y1))
 | 0 => fun _ _ r h => by simp [impl_CrcStep.l0] at h
 | k + 1 => by
  have ih0:=impl_CrcStep.mono_l k
  ·intro y0 y1
   unfold impl_CrcStep.l0
   repeat' first
   | (with_reducible exact ih0 _ _)
   | (with_reducible exact LeO.refl _)
   | (with_reducible exact LeO.none _)
   | (with_reducible refine LeO.ite ?_ ?_)
   | (with_reducible refine LeO.bind ?_ (fun _ => ?_))
   | exact ih0 _ _
   | exact LeO.none _
   | refine LeO.ite ?_ ?_
   | refine LeO.bind ?_ (fun _ => ?_)
theorem impl_CrcStep.mono : ∀ a0 a1 k,LeO (impl_CrcStep.f k a0 a1) (impl_CrcStep.f (k + 1) a0 a1):=by
 intro a0 a1 k
 have ih0:=impl_CrcStep.mono_l k
 unfold impl_CrcStep.f
 repeat' first
   | (with_reducible exact ih0 _ _)
   | (with_reducible exact LeO.refl _)
   | (with_reducible exact LeO.none _)
   | (with_reducible refine LeO.ite ?_ ?_)
   | (with_reducible refine LeO.bind ?_ (fun _ => ?_))
   | exact ih0 _ _
   | exact LeO.none _
   | refine LeO.ite ?_ ?_
   | refine LeO.bind ?_ (fun _ => ?_)
set_option maxHeartbeats 8000000 in
set_option maxRecDepth 100000 in
theorem impl_CrcStep.calls (k : Nat) (a0 : Int) (a1 : Int) (r : Int) (w : World) (h : impl_CrcStep.f k a0 a1 = some r) :
  Calls Try.prog 80 #[.int .i64 a0,.int .u8 a1] w fun e w' => e = .returned (.int .i64 r) ∧ Drawn0 w w':=by
 have H : ((impl_within.f a0 0 65535).bind fun t101 => (if t101 = true then (impl_CrcStep.l0 k (Go.bits .xor .i64 a0 (wrap64 ((wrap64 (a1)) * 256))) 0) else (some (-1)))) = some r:=h
 clear h
 replace H:=Option.bind_eq_some_iff.mp H
 obtain ⟨t101,A30,H⟩:=H
 replace H : (if t101 = true then (impl_CrcStep.l0 k (Go.bits .xor .i64 a0 (wrap64 ((wrap64 (a1)) * 256))) 0) else (some (-1))) = some r:=H
 have A3:=mk_ A30
 clear A30
 by_cases c4 : t101 = true
 ·subst c4
  have H1 : (impl_CrcStep.l0 k (Go.bits .xor .i64 a0 (wrap64 ((wrap64 (a1)) * 256))) 0) = some r:=by rw [if_pos rfl] at H;exact H
  clear H
  have H:=H1
  clear H1
  have H':=mk_ H
  clear H
  go_enter Try.func80,Try.ntmps80
  go_wp2_with (first|((with_reducible refine gate_callee (f:=42) rfl ?_);refine goesL_ (some 7) rfl rfl Try.func42 (by kernel_rfl) rfl #[.int .i64 a0,.int .i64 0,.int .i64 65535] rfl qm_ ?_;(with_reducible refine (impl_within.calls a0 0 65535 true _ A3.out).mono ?_);rintro e w' ⟨rfl,⟨nd,rfl⟩⟩;refine ⟨_,rfl,?_⟩))
  go_loopg [0,14] k (fun kq v0 v14 w' => ∃ (x0_1 : Int) (x14_1 : Int),v0 = .int .i64 x0_1 ∧ v14 = .int .i64 x14_1 ∧ Aside0 (impl_CrcStep.l0 kq x0_1 x14_1 = some r) ∧ Aside0 (kq ≤ k) ∧ Drawn0 w w')
  case atStart => exact ⟨(Go.bits .xor .i64 a0 (wrap64 ((wrap64 (a1)) * 256))),(0),qf_,qf_,H',⟨Nat.le_refl _⟩,by repeat (first|exact Drawn0.refl _|apply Drawn0.step)⟩
  case round =>
   clear H'
   try clear p2
   try clear c4
   obtain ⟨x0_1,x14_1,rfl,rfl,HA,HK1,⟨m1,rfl⟩⟩:=hrel
   cases gk with
   | zero => exact absurd HA.out (by simp [impl_CrcStep.l0])
   | succ k1 =>
    have H:=HA.out
    clear HA
    simp only [impl_CrcStep.l0] at H
    by_cases c5 : x14_1 < 8
    ·rw [if_pos c5] at H
     have c5b0 : decide (x14_1 < 8) = true:=decide_eq_true c5
     clear c5
     by_cases c6 : (x0_1 / 32768) = 1
     ·rw [if_pos c6] at H
      have c6b0 : ((x0_1 / 32768) == 1) = true:=beq_iff_eq.mpr c6
      have c6b1 : ((x0_1 / 32768) != 1) = false:=bne_eq_false_iff_eq.mpr c6
      clear c6
      have H':=mk_ H
      clear H
      go_wp2
      go_roundg k1
      case measure => have:=HK1.out;omega
      case rel => exact ⟨(Go.bits .xor .i64 (Go.bits .and .i64 (wrap64 (x0_1 * 2)) 65535) 4129),(wrap64 (x14_1 + 1)),qf_,qf_,H',⟨by have:=HK1.out;omega⟩,by repeat (first|exact Drawn0.refl _|apply Drawn0.step)⟩
     ·rw [if_neg c6] at H
      have c6b0 : ((x0_1 / 32768) == 1) = false:=beq_eq_false_iff_ne.mpr c6
      have c6b1 : ((x0_1 / 32768) != 1) = true:=bne_iff_ne.mpr c6
      have H':=mk_ H
      clear H
      go_wp2
      go_roundg k1
      case measure => have:=HK1.out;omega
      case rel => exact ⟨(Go.bits .and .i64 (wrap64 (x0_1 * 2)) 65535),(wrap64 (x14_1 + 1)),qf_,qf_,H',⟨by have:=HK1.out;omega⟩,by repeat (first|exact Drawn0.refl _|apply Drawn0.step)⟩
    ·rw [if_neg c5] at H
     have c5b0 : decide (x14_1 < 8) = false:=decide_eq_false c5
     clear c5
     obtain rfl:=Option.some.inj H
     go_wp2
     go_ret
     exact ⟨by first|rfl|(simp;done)|(simp [*];done),by repeat (first|exact Drawn0.refl _|apply Drawn0.step)⟩
 ·replace c4:=Bool.eq_false_iff.mpr c4
  subst c4
  have H1 : (some (-1)) = some r:=by rw [if_neg (show ¬ (false = true) by decide)] at H;exact H
  clear H
  have H:=H1
  clear H1
  obtain rfl:=Option.some.inj H
  go_enter Try.func80,Try.ntmps80
  go_wp2_with (first|((with_reducible refine gate_callee (f:=42) rfl ?_);refine goesL_ (some 7) rfl rfl Try.func42 (by kernel_rfl) rfl #[.int .i64 a0,.int .i64 0,.int .i64 65535] rfl qm_ ?_;(with_reducible refine (impl_within.calls a0 0 65535 false _ A3.out).mono ?_);rintro e w' ⟨rfl,⟨nd,rfl⟩⟩;refine ⟨_,rfl,?_⟩))
  go_ret
  exact ⟨by first|rfl|(simp;done)|(simp [*];done),by repeat (first|exact Drawn0.refl _|apply Drawn0.step)⟩

/-! ### impl_CrcOf: function 65 -/
def impl_CrcOf.l0 : Nat → Int → List Int → Int → Int → Option (Int)
 | 0,_,_,_,_ => none
 | k + 1,x3,x9,x10,x11 => if x11 < x10 then (if 0 ≤ x11 then (if x11 < (x9.length : Int) then ((impl_CrcStep.f k x3 (rd x9 x11)).bind fun t104 => (impl_CrcOf.l0 k t104 x9 x10 (wrap64 (x11 + 1)))) else (none)) else (none)) else (some x3)
def impl_CrcOf.f (k : Nat) (l0 : List Int) : Option (Int):=(impl_isData.f l0).bind fun t102 => (if t102 = true then (impl_CrcOf.l0 k 65535 l0 (l0.length : Int) 0) else (some (-1)))
theorem impl_CrcOf.mono_l : ∀ k,(∀ y0 y1 y2 y3,LeO (impl_CrcOf.l0 k y0 y1 y2 y3) (impl_CrcOf.l0 (k + 1) y0 y1 y2 y3))
 | 0 => fun _ _ _ _ r h => by simp [impl_CrcOf.l0] at h
 | k + 1 => by
  have ih0:=impl_CrcOf.mono_l k
  ·intro y0 y1 y2 y3
   unfold impl_CrcOf.l0
   repeat' first
   | (with_reducible exact ih0 _ _ _ _)
   | (with_reducible exact impl_CrcStep.mono _ _ _)
   | (with_reducible exact LeO.refl _)
   | (with_reducible exact LeO.none _)
   | (with_reducible refine LeO.ite ?_ ?_)
   | (with_reducible refine LeO.bind ?_ (fun _ => ?_))
   | exact ih0 _ _ _ _
   | exact impl_CrcStep.mono _ _ _
   | exact LeO.none _
   | refine LeO.ite ?_ ?_
   | refine LeO.bind ?_ (fun _ => ?_)
theorem impl_CrcOf.mono : ∀ a0 k,LeO (impl_CrcOf.f k a0) (impl_CrcOf.f (k + 1) a0):=by
 intro a0 k
 have ih0:=impl_CrcOf.mono_l k
 unfold impl_CrcOf.f
 repeat' first
   | (with_reducible exact ih0 _ _ _ _)
   | (with_reducible exact impl_CrcStep.mono _ _ _)
   | (with_reducible exact LeO.refl _)
   | (with_reducible exact LeO.none _)
   | (with_reducible refine LeO.ite ?_ ?_)
   | (with_reducible refine LeO.bind ?_ (fun _ => ?_))
   | exact ih0 _ _ _ _
   | exact impl_CrcStep.mono _ _ _
   | exact LeO.none _
   | refine LeO.ite ?_ ?_
   | refine LeO.bind ?_ (fun _ => ?_)
set_option maxHeartbeats 8000000 in
set_option maxRecDepth 100000 in
theorem impl_CrcOf.calls (k : Nat) (A0 : Option Addr) (c0 : Nat) (l0 : List Int) (r : Int) (w : World) (hr0 : Kd.C (Kd.int .u8) w A0 l0.length l0) (hc0 : l0.length ≤ c0) (h : impl_CrcOf.f k l0 = some r) :
  Calls Try.prog 65 #[.slice A0 l0.length c0] w fun e w' => e = .returned (.int .i64 r) ∧ Drawn0 w w':=by
 have HR0:=mk_ hr0
 have HC0:=mk_ hc0
 clear hr0 hc0
 have H : ((impl_isData.f l0).bind fun t102 => (if t102 = true then (impl_CrcOf.l0 k 65535 l0 (l0.length : Int) 0) else (some (-1)))) = some r:=h
 clear h
 replace H:=Option.bind_eq_some_iff.mp H
 obtain ⟨t102,A20,H⟩:=H
 replace H : (if t102 = true then (impl_CrcOf.l0 k 65535 l0 (l0.length : Int) 0) else (some (-1))) = some r:=H
 have A2:=mk_ A20
 clear A20
 by_cases c3 : t102 = true
 ·subst c3
  have H1 : (impl_CrcOf.l0 k 65535 l0 (l0.length : Int) 0) = some r:=by rw [if_pos rfl] at H;exact H
  clear H
  have H:=H1
  clear H1
  have H':=mk_ H
  clear H
  go_enter Try.func65,Try.ntmps65
  go_wp2_with (first|((with_reducible refine gate_callee (f:=67) rfl ?_);refine goesL_ (some 7) rfl rfl Try.func67 (by kernel_rfl) rfl #[.slice A0 l0.length c0] rfl qm_ ?_;(with_reducible refine (impl_isData.calls _ _ l0 true _ ?side1 ?side2 A2.out).mono ?_);(case side1 => repeat (first|exact HR0.out|(with_reducible refine ca_ ?_ _)|(with_reducible refine cn_ ?_ _)|(with_reducible refine cd_ ?_)));(case side2 => exact HC0.out);rintro e w' ⟨rfl,⟨nd,rfl⟩⟩;refine ⟨_,rfl,?_⟩))
  go_loopg [3,11] k (fun kq v3 v11 w' => ∃ (x3_1 : Int) (x11_1 : Int),v3 = .int .i64 x3_1 ∧ v11 = .int .i64 x11_1 ∧ Aside0 (impl_CrcOf.l0 kq x3_1 l0 (l0.length : Int) x11_1 = some r) ∧ Aside0 (kq ≤ k) ∧ Drawn0 w w')
  case atStart => exact ⟨(65535),(0),qf_,qf_,H',⟨Nat.le_refl _⟩,by repeat (first|exact Drawn0.refl _|apply Drawn0.step)⟩
  case round =>
   clear H'
   try clear p2
   try clear c3
   obtain ⟨x3_1,x11_1,rfl,rfl,HA,HK1,⟨m1,rfl⟩⟩:=hrel
   cases gk with
   | zero => exact absurd HA.out (by simp [impl_CrcOf.l0])
   | succ k1 =>
    have H:=HA.out
    clear HA
    simp only [impl_CrcOf.l0] at H
    by_cases c4 : x11_1 < (l0.length : Int)
    ·rw [if_pos c4] at H
     have c4b0 : decide (x11_1 < (l0.length : Int)) = true:=decide_eq_true c4
     clear c4
     by_cases c5 : 0 ≤ x11_1
     ·rw [if_pos c5] at H
      have c5b0 : decide (0 ≤ x11_1) = true:=decide_eq_true c5
      clear c5
      by_cases c6 : x11_1 < (l0.length : Int)
      ·rw [if_pos c6] at H
       have c6b0 : decide (x11_1 < (l0.length : Int)) = true:=decide_eq_true c6
       clear c6
       replace H:=Option.bind_eq_some_iff.mp H
       obtain ⟨t104,A70,H⟩:=H
       replace H : (impl_CrcOf.l0 k1 t104 l0 (l0.length : Int) (wrap64 (x11_1 + 1))) = some r:=H
       have A7:=mk_ A70
       clear A70
       have H':=mk_ H
       clear H
       have p103 : 0 ≤ (x11_1 : Int):=od_ qa_
       have q103 : x11_1 < (l0.length : Int):=od_ qa_
       obtain ⟨ad103,e103,hx103_0⟩:=Kd.at_int HR0.out x11_1 p103 q103
       cases e103
       replace p103:=eq_true p103
       replace q103:=eq_true q103
       go_wp2_with (first|((with_reducible refine gate_callee (f:=80) rfl ?_);refine goesL_ (some 17) rfl rfl Try.func80 (by kernel_rfl) rfl #[.int .i64 x3_1,.int .u8 (rd l0 x11_1)] rfl qm_ ?_;(with_reducible refine (impl_CrcStep.calls k1 x3_1 (rd l0 x11_1) t104 _ A7.out).mono ?_);rintro e w' ⟨rfl,⟨nd,rfl⟩⟩;refine ⟨_,rfl,?_⟩))
       go_roundg k1
       case measure => have:=HK1.out;omega
       case rel => exact ⟨(t104),(wrap64 (x11_1 + 1)),qf_,qf_,H',⟨by have:=HK1.out;omega⟩,by repeat (first|exact Drawn0.refl _|apply Drawn0.step)⟩
      ·rw [if_neg c6] at H
       exact absurd H (by simp)
     ·rw [if_neg c5] at H
      exact absurd H (by simp)
    ·rw [if_neg c4] at H
     have c4b0 : decide (x11_1 < (l0.length : Int)) = false:=decide_eq_false c4
     clear c4
     obtain rfl:=Option.some.inj H
     go_wp2
     go_ret
     exact ⟨by first|rfl|(simp;done)|(simp [*];done),by repeat (first|exact Drawn0.refl _|apply Drawn0.step)⟩
 ·replace c3:=Bool.eq_false_iff.mpr c3
  subst c3
  have H1 : (some (-1)) = some r:=by rw [if_neg (show ¬ (false = true) by decide)] at H;exact H
  clear H
  have H:=H1
  clear H1
  obtain rfl:=Option.some.inj H
  go_enter Try.func65,Try.ntmps65
  go_wp2_with (first|((with_reducible refine gate_callee (f:=67) rfl ?_);refine goesL_ (some 7) rfl rfl Try.func67 (by kernel_rfl) rfl #[.slice A0 l0.length c0] rfl qm_ ?_;(with_reducible refine (impl_isData.calls _ _ l0 false _ ?side1 ?side2 A2.out).mono ?_);(case side1 => repeat (first|exact HR0.out|(with_reducible refine ca_ ?_ _)|(with_reducible refine cn_ ?_ _)|(with_reducible refine cd_ ?_)));(case side2 => exact HC0.out);rintro e w' ⟨rfl,⟨nd,rfl⟩⟩;refine ⟨_,rfl,?_⟩))
  go_ret
  exact ⟨by first|rfl|(simp;done)|(simp [*];done),by repeat (first|exact Drawn0.refl _|apply Drawn0.step)⟩

/-! ### impl_AddCrc: function 52 -/
def impl_AddCrc.f (k : Nat) (l0 : List Int) : Option (List Int × Bool):=if (wrap64 ((l0.length : Int) + 2)) > 600 then (some (([] : List Int),false)) else ((impl_CrcOf.f k l0).bind fun t105 => ((some (([] : List Int) : List Int)).bind fun y106 => (if y106.length + l0.length < 140737488355328 then ((some (y106 ++ l0 : List Int)).bind fun y109 => ((some (([(t105 / 256) % 256,(t105) % 256] : List Int) : List Int)).bind fun y112 => (if y109.length + y112.length < 140737488355328 then (some ((y109 ++ y112),true)) else (none)))) else (none))))
theorem impl_AddCrc.mono : ∀ a0 k,LeO (impl_AddCrc.f k a0) (impl_AddCrc.f (k + 1) a0):=by
 intro a0 k
 unfold impl_AddCrc.f
 repeat' first
   | (with_reducible exact impl_CrcOf.mono _ _)
   | (with_reducible exact LeO.refl _)
   | (with_reducible exact LeO.none _)
   | (with_reducible refine LeO.ite ?_ ?_)
   | (with_reducible refine LeO.bind ?_ (fun _ => ?_))
   | exact impl_CrcOf.mono _ _
   | exact LeO.none _
   | refine LeO.ite ?_ ?_
   | refine LeO.bind ?_ (fun _ => ?_)
set_option maxHeartbeats 8000000 in
set_option maxRecDepth 100000 in
theorem impl_AddCrc.calls (k : Nat) (A0 : Option Addr) (c0 : Nat) (l0 : List Int) (r1 : List Int) (r2 : Bool) (w : World) (hr0 : Kd.C (Kd.int .u8) w A0 l0.length l0) (hc0 : l0.length ≤ c0) (h : impl_AddCrc.f k l0 = some (r1,r2)) :
  Calls Try.prog 52 #[.slice A0 l0.length c0] w fun e w' => ∃ v0_ : Value,e = .returned (.tuple #[v0_,.bool r2]) ∧ Kd.R (Kd.int .u8) 5 w' w.heap.size (fun _ => True) v0_ r1 ∧ Below w.heap.size w w':=by
 have HR0:=mk_ hr0
 have HC0:=mk_ hc0
 clear hr0 hc0
 have HB:=mk_ (Below.refl w.heap.size w)
 have H : (if (wrap64 ((l0.length : Int) + 2)) > 600 then (some (([] : List Int),false)) else ((impl_CrcOf.f k l0).bind fun t105 => ((some (([] : List Int) : List Int)).bind fun y106 => (if y106.length + l0.length < 140737488355328 then ((some (y106 ++ l0 : List Int)).bind fun y109 => ((some (([(t105 / 256) % 256,(t105) % 256] : List Int) : List Int)).bind fun y112 => (if y109.length + y112.length < 140737488355328 then (some ((y109 ++ y112),true)) else (none)))) else (none))))) = some (r1,r2):=h
 clear h
 by_cases c2 : (wrap64 ((l0.length : Int) + 2)) > 600
 ·rw [if_pos c2] at H
  have c2b0 : decide (600 < (wrap64 ((l0.length : Int) + 2))) = true:=decide_eq_true c2
  clear c2
  simp only [Option.some.injEq,Prod.mk.injEq] at H
  obtain ⟨rfl,rfl⟩:=H
  go_enter Try.func52,Try.ntmps52
  go_wp2
  go_ret2
  exact ⟨_,qe_,by first|exact Kd.R_nil _ _ _ _ _|exact Kd.N_nil _ _ _ _ _|exact Kd.V_nil _ _ _ _ _|exact Kd.Q_nil _ _ _ _ _|exact Kd.S_nil _ _ _ _ _,u0_ HB⟩
 ·rw [if_neg c2] at H
  have c2b0 : decide (600 < (wrap64 ((l0.length : Int) + 2))) = false:=decide_eq_false c2
  clear c2
  replace H:=Option.bind_eq_some_iff.mp H
  obtain ⟨t105,A30,H⟩:=H
  replace H : ((some (([] : List Int) : List Int)).bind fun y106 => (if y106.length + l0.length < 140737488355328 then ((some (y106 ++ l0 : List Int)).bind fun y109 => ((some (([(t105 / 256) % 256,(t105) % 256] : List Int) : List Int)).bind fun y112 => (if y109.length + y112.length < 140737488355328 then (some ((y109 ++ y112),true)) else (none)))) else (none))) = some (r1,r2):=H
  have A3:=mk_ A30
  clear A30
  obtain ⟨y106,hy106⟩ : ∃ y_ : List Int,y_ = (([] : List Int)):=⟨_,rfl⟩
  replace H : (if y106.length + l0.length < 140737488355328 then ((some (y106 ++ l0 : List Int)).bind fun y109 => ((some (([(t105 / 256) % 256,(t105) % 256] : List Int) : List Int)).bind fun y112 => (if y109.length + y112.length < 140737488355328 then (some ((y109 ++ y112),true)) else (none)))) else (none)) = some (r1,r2):=by first|(rw [hy106];with_reducible exact H)|(have H2_:=(Option.bind_some _ _).symm.trans H;rw [hy106];with_reducible exact H2_)|(have H2_:=(Option.bind_some _ _).symm.trans H;with_reducible exact H2_)|with_reducible exact H|(rw [hy106];exact H)|exact H
  have Ny106:=mk_ hy106
  clear hy106
  by_cases c4 : y106.length + l0.length < 140737488355328
  ·rw [if_pos c4] at H
   have LMc4:=mk_ c4
   clear c4
   obtain ⟨y109,hy109⟩ : ∃ y_ : List Int,y_ = (y106 ++ l0):=⟨_,rfl⟩
   replace H : ((some (([(t105 / 256) % 256,(t105) % 256] : List Int) : List Int)).bind fun y112 => (if y109.length + y112.length < 140737488355328 then (some ((y109 ++ y112),true)) else (none))) = some (r1,r2):=by first|(rw [hy109];with_reducible exact H)|(have H2_:=(Option.bind_some _ _).symm.trans H;rw [hy109];with_reducible exact H2_)|(have H2_:=(Option.bind_some _ _).symm.trans H;with_reducible exact H2_)|with_reducible exact H|(rw [hy109];exact H)|exact H
   have Ny109:=mk_ hy109
   clear hy109
   obtain ⟨y112,hy112⟩ : ∃ y_ : List Int,y_ = (([(t105 / 256) % 256,(t105) % 256] : List Int)):=⟨_,rfl⟩
   replace H : (if y109.length + y112.length < 140737488355328 then (some ((y109 ++ y112),true)) else (none)) = some (r1,r2):=by first|(rw [hy112];with_reducible exact H)|(have H2_:=(Option.bind_some _ _).symm.trans H;rw [hy112];with_reducible exact H2_)|(have H2_:=(Option.bind_some _ _).symm.trans H;with_reducible exact H2_)|with_reducible exact H|(rw [hy112];exact H)|exact H
   have Ny112:=mk_ hy112
   clear hy112
   by_cases c5 : y109.length + y112.length < 140737488355328
   ·rw [if_pos c5] at H
    have LMc5:=mk_ c5
    clear c5
    obtain ⟨y115,hy115⟩ : ∃ y_ : List Int,y_ = (y109 ++ y112):=⟨_,rfl⟩
    replace H : (some (y115,true)) = some (r1,r2):=by first|(rw [hy115];with_reducible exact H)|(have H2_:=(Option.bind_some _ _).symm.trans H;rw [hy115];with_reducible exact H2_)|(have H2_:=(Option.bind_some _ _).symm.trans H;with_reducible exact H2_)|with_reducible exact H|(rw [hy115];exact H)|exact H
    have Ny115:=mk_ hy115
    clear hy115
    simp only [Option.some.injEq,Prod.mk.injEq] at H
    obtain ⟨rfl,rfl⟩:=H
    go_enter Try.func52,Try.ntmps52
    go_wp2_with (first|((with_reducible refine gate_callee (f:=65) rfl ?_);refine goesL_ (some 10) rfl rfl Try.func65 (by kernel_rfl) rfl #[.slice A0 l0.length c0] rfl qm_ ?_;(with_reducible refine (impl_CrcOf.calls k _ _ l0 t105 _ ?side1 ?side2 A3.out).mono ?_);(case side1 => repeat (first|exact HR0.out|(with_reducible refine ca_ ?_ _)|(with_reducible refine cn_ ?_ _)|(with_reducible refine cd_ ?_)));(case side2 => exact HC0.out);rintro e w' ⟨rfl,⟨nd,rfl⟩⟩;refine ⟨_,rfl,?_⟩)|((with_reducible refine gate_dst (N:=11) rfl ?_);refine Kd.R_lit (Kd.int .u8) _ 5 ?hg (N:=11) ?hd (xs:=([] : List Int)) (inner:=[]) (ok:=fun _ => True) (okp:=fun _ => True) ?hr ?hp (fun _ hk => hk) trivial (Below.refl _ _) (Nat.le_refl _) (by simp) ?_;(case hd => rfl);(case hg => rfl);(case hr => first|(go_simp;done)|(go_simp;rfl));(case hp => exact (Reps.none _ _));intro v107 w6 ho7 hb hg_ hnew_;clear hg_ hnew_;(first|rw [← Ny106.out] at ho7|(simp only [Int.reduceToNat] at ho7;rw [← Ny106.out] at ho7));have n0_:=mk_ (Kd.R_lower ho7 (bz_ (qb_ HB)));have n1_:=mk_ (st_ (qb_ HB) hb);clear HB;have HO108:=n0_;have HB:=n1_;clear n0_ n1_ hb ho7)|((with_reducible refine gate_builtin (b:=.append) (xs:=#[.tmp 11,.tmp 12]) rfl ?_);at_builtin;refine Kd.R_append_rows (Kd.int .u8) (w0:=w) w.heap.size rfl (.tmp 11) (.tmp 12) 22 5 (.int .u8 0) 1 rfl Try.underlying22 info5 rfl (by decide) (by omega) v107 y106 l0 _ _ _ (fun _ => True) (fun _ => False) rfl rfl ?aO ?aR (fun _ _ h => h) (fun _ h => h.elim) ?aF ?aB ?aS ?aL ?_;(case aR => exact qn_ HR0 HB);(case aB => exact (qb_ HB));(case aF => exact (fun _ _ => trivial));(case aO => exact (qr_ HO108));(case aS => exact (bz_ (qb_ HB)));(case aL => have:=LMc4.out;omega);intro v110 w8 ho hb hg hat;rw [← Ny109.out] at ho;have n0_:=mk_ (hb);have n1_:=mk_ (ho);clear HB HO108;have HB:=n0_;have HO111:=n1_;clear n0_ n1_ ho hb hg hat)|((with_reducible refine gate_dst (N:=19) rfl ?_);refine Kd.R_lit (Kd.int .u8) _ 5 ?hg (N:=19) ?hd (xs:=([(t105 / 256) % 256,(t105) % 256] : List Int)) (inner:=[.int .u8 ((t105 / 256) % 256),.int .u8 ((t105) % 256)]) (ok:=fun _ => True) (okp:=fun _ => True) ?hr ?hp (fun _ hk => hk) trivial (Below.refl _ _) (Nat.le_refl _) (by simp) ?_;(case hd => rfl);(case hg => rfl);(case hr => first|(go_simp;done)|(go_simp;rfl));(case hp => exact (Reps.one (show Kd.M (Kd.int .u8) _ _ _ ((t105 / 256) % 256) [.int .u8 ((t105 / 256) % 256)] from rfl) (Reps.one (show Kd.M (Kd.int .u8) _ _ _ ((t105) % 256) [.int .u8 ((t105) % 256)] from rfl) (Reps.none _ _))));intro v113 w9 ho10 hb hg_ hnew_;clear hg_ hnew_;(first|rw [← Ny112.out] at ho10|(simp only [Int.reduceToNat] at ho10;rw [← Ny112.out] at ho10));have n0_:=mk_ (re_ (qr_ HO111) (Kd.R_base ho10) hb);have n1_:=mk_ (Kd.R_lower (Kd.R_new' ho10 (Kd.R_lt (qr_ HO111))) (bz_ (qb_ HB)));have n2_:=mk_ (st_ (qb_ HB) hb);clear HO111 HB;have HO111:=n0_;have HO114:=n1_;have HB:=n2_;clear n0_ n1_ n2_ hb ho10;obtain ⟨Ao12,co12,eo12⟩:=Kd.R_slice HO114.out;subst eo12)|((with_reducible refine gate_builtin (b:=.append) (xs:=#[.tmp 13,.tmp 19]) rfl ?_);at_builtin;refine Kd.R_append_rows (Kd.int .u8) (w0:=w) w.heap.size rfl (.tmp 13) (.tmp 19) 22 5 (.int .u8 0) 1 rfl Try.underlying22 info5 rfl (by decide) (by omega) v110 y109 y112 _ _ _ (fun k_ => some k_ ≠ (.slice Ao12 y112.length co12 : Value).ownBlock) (fun _ => False) rfl rfl ?aO ?aR (fun _ _ h => h) (fun _ h => h.elim) ?aF ?aB ?aS ?aL ?_;(case aR => repeat (first|exact (rr_ HO114.out).2.2|(with_reducible refine ca_ ?_ _)|(with_reducible refine cn_ ?_ _)|(with_reducible refine cd_ ?_)));(case aB => exact (qb_ HB));(case aF => exact (fun k_ hk => Kd.fresh' (Kd.R_lt (qr_ HO114)) k_ hk));(case aO => exact (by (with_reducible repeat (first|apply ra_|apply rn_|apply rd_));exact rm_ HO111.out (λ_ h=>h.2)));(case aS => exact (bz_ (qb_ HB)));(case aL => have:=LMc5.out;omega);intro v116 w11 ho hb hg hat;rw [← Ny115.out] at ho;have n0_:=mk_ (Kd.R_after (ok:=(fun _ => True)) (qr_ HO114) hg hat);have n1_:=mk_ (hb);have n2_:=mk_ (ho);clear HO114 HB HO111;have HO114:=n0_;have HB:=n1_;have HO117:=n2_;clear n0_ n1_ n2_ ho hb hg hat))
    go_ret2
    exact ⟨_,qe_,by (with_reducible repeat (first|apply ra_|apply rn_|apply rd_));exact rm_ HO117.out (λ_ _=>trivial),u0_ HB⟩
   ·rw [if_neg c5] at H
    exact absurd H (by simp)
  ·rw [if_neg c4] at H
   exact absurd H (by simp)

/-! ### impl_PackLink: function 32 -/
def impl_PackLink.f (k : Nat) (a0 : Int) (a1 : Int) (l2 : List Int) : Option (List Int × Bool):=(impl_within.f a0 1 2).bind fun t118 => (if t118 = true then ((impl_within.f a1 0 15).bind fun t119 => (if t119 = true then (if a0 = 2 then (if (l2.length : Int) > 0 then (some (([] : List Int),false)) else ((some (([(wrap64 ((wrap64 (16 * a0)) + a1)) % 256] : List Int) : List Int)).bind fun y120 => (if y120.length + l2.length < 140737488355328 then ((impl_AddCrc.f k (y120 ++ l2)).bind fun bt126 => (some (bt126.1,bt126.2))) else (none)))) else ((some (([(wrap64 ((wrap64 (16 * a0)) + a1)) % 256] : List Int) : List Int)).bind fun y130 => (if y130.length + l2.length < 140737488355328 then ((impl_AddCrc.f k (y130 ++ l2)).bind fun bt136 => (some (bt136.1,bt136.2))) else (none)))) else (some (([] : List Int),false)))) else (some (([] : List Int),false)))
theorem impl_PackLink.mono : ∀ a0 a1 a2 k,LeO (impl_PackLink.f k a0 a1 a2) (impl_PackLink.f (k + 1) a0 a1 a2):=by
 intro a0 a1 a2 k
 unfold impl_PackLink.f
 repeat' first
   | (with_reducible exact impl_AddCrc.mono _ _)
   | (with_reducible exact LeO.refl _)
   | (with_reducible exact LeO.none _)
   | (with_reducible refine LeO.ite ?_ ?_)
   | (with_reducible refine LeO.bind ?_ (fun _ => ?_))
   | exact impl_AddCrc.mono _ _
   | exact LeO.none _
   | refine LeO.ite ?_ ?_
   | refine LeO.bind ?_ (fun _ => ?_)
set_option maxHeartbeats 8000000 in
set_option maxRecDepth 100000 in
theorem impl_PackLink.calls (k : Nat) (a0 : Int) (a1 : Int) (A2 : Option Addr) (c2 : Nat) (l2 : List Int) (r1 : List Int) (r2 : Bool) (w : World) (hr2 : Kd.C (Kd.int .u8) w A2 l2.length l2) (hc2 : l2.length ≤ c2) (h : impl_PackLink.f k a0 a1 l2 = some (r1,r2)) :
  Calls Try.prog 32 #[.int .i64 a0,.int .i64 a1,.slice A2 l2.length c2] w fun e w' => ∃ v0_ : Value,e = .returned (.tuple #[v0_,.bool r2]) ∧ Kd.R (Kd.int .u8) 5 w' w.heap.size (fun _ => True) v0_ r1 ∧ Below w.heap.size w w':=by
 have HR2:=mk_ hr2
 have HC2:=mk_ hc2
 clear hr2 hc2
 have HB:=mk_ (Below.refl w.heap.size w)
 have H : ((impl_within.f a0 1 2).bind fun t118 => (if t118 = true then ((impl_within.f a1 0 15).bind fun t119 => (if t119 = true then (if a0 = 2 then (if (l2.length : Int) > 0 then (some (([] : List Int),false)) else ((some (([(wrap64 ((wrap64 (16 * a0)) + a1)) % 256] : List Int) : List Int)).bind fun y120 => (if y120.length + l2.length < 140737488355328 then ((impl_AddCrc.f k (y120 ++ l2)).bind fun bt126 => (some (bt126.1,bt126.2))) else (none)))) else ((some (([(wrap64 ((wrap64 (16 * a0)) + a1)) % 256] : List Int) : List Int)).bind fun y130 => (if y130.length + l2.length < 140737488355328 then ((impl_AddCrc.f k (y130 ++ l2)).bind fun bt136 => (some (bt136.1,bt136.2))) else (none)))) else (some (([] : List Int),false)))) else (some (([] : List Int),false)))) = some (r1,r2):=h
 clear h
 replace H:=Option.bind_eq_some_iff.mp H
 obtain ⟨t118,A40,H⟩:=H
 replace H : (if t118 = true then ((impl_within.f a1 0 15).bind fun t119 => (if t119 = true then (if a0 = 2 then (if (l2.length : Int) > 0 then (some (([] : List Int),false)) else ((some (([(wrap64 ((wrap64 (16 * a0)) + a1)) % 256] : List Int) : List Int)).bind fun y120 => (if y120.length + l2.length < 140737488355328 then ((impl_AddCrc.f k (y120 ++ l2)).bind fun bt126 => (some (bt126.1,bt126.2))) else (none)))) else ((some (([(wrap64 ((wrap64 (16 * a0)) + a1)) % 256] : List Int) : List Int)).bind fun y130 => (if y130.length + l2.length < 140737488355328 then ((impl_AddCrc.f k (y130 ++ l2)).bind fun bt136 => (some (bt136.1,bt136.2))) else (none)))) else (some (([] : List Int),false)))) else (some (([] : List Int),false))) = some (r1,r2):=H
 have A4:=mk_ A40
 clear A40
 by_cases c5 : t118 = true
 ·subst c5
  have H1 : ((impl_within.f a1 0 15).bind fun t119 => (if t119 = true then (if a0 = 2 then (if (l2.length : Int) > 0 then (some (([] : List Int),false)) else ((some (([(wrap64 ((wrap64 (16 * a0)) + a1)) % 256] : List Int) : List Int)).bind fun y120 => (if y120.length + l2.length < 140737488355328 then ((impl_AddCrc.f k (y120 ++ l2)).bind fun bt126 => (some (bt126.1,bt126.2))) else (none)))) else ((some (([(wrap64 ((wrap64 (16 * a0)) + a1)) % 256] : List Int) : List Int)).bind fun y130 => (if y130.length + l2.length < 140737488355328 then ((impl_AddCrc.f k (y130 ++ l2)).bind fun bt136 => (some (bt136.1,bt136.2))) else (none)))) else (some (([] : List Int),false)))) = some (r1,r2):=by rw [if_pos rfl] at H;exact H
  clear H
  have H:=H1
  clear H1
  replace H:=Option.bind_eq_some_iff.mp H
  obtain ⟨t119,A60,H⟩:=H
  replace H : (if t119 = true then (if a0 = 2 then (if (l2.length : Int) > 0 then (some (([] : List Int),false)) else ((some (([(wrap64 ((wrap64 (16 * a0)) + a1)) % 256] : List Int) : List Int)).bind fun y120 => (if y120.length + l2.length < 140737488355328 then ((impl_AddCrc.f k (y120 ++ l2)).bind fun bt126 => (some (bt126.1,bt126.2))) else (none)))) else ((some (([(wrap64 ((wrap64 (16 * a0)) + a1)) % 256] : List Int) : List Int)).bind fun y130 => (if y130.length + l2.length < 140737488355328 then ((impl_AddCrc.f k (y130 ++ l2)).bind fun bt136 => (some (bt136.1,bt136.2))) else (none)))) else (some (([] : List Int),false))) = some (r1,r2):=H
  have A6:=mk_ A60
  clear A60
  by_cases c7 : t119 = true
  ·subst c7
   have H1 : (if a0 = 2 then (if (l2.length : Int) > 0 then (some (([] : List Int),false)) else ((some (([(wrap64 ((wrap64 (16 * a0)) + a1)) % 256] : List Int) : List Int)).bind fun y120 => (if y120.length + l2.length < 140737488355328 then ((impl_AddCrc.f k (y120 ++ l2)).bind fun bt126 => (some (bt126.1,bt126.2))) else (none)))) else ((some (([(wrap64 ((wrap64 (16 * a0)) + a1)) % 256] : List Int) : List Int)).bind fun y130 => (if y130.length + l2.length < 140737488355328 then ((impl_AddCrc.f k (y130 ++ l2)).bind fun bt136 => (some (bt136.1,bt136.2))) else (none)))) = some (r1,r2):=by rw [if_pos rfl] at H;exact H
   clear H
   have H:=H1
   clear H1
   by_cases c8 : a0 = 2
   ·rw [if_pos c8] at H
    have c8b0 : (a0 == 2) = true:=beq_iff_eq.mpr c8
    have c8b1 : (a0 != 2) = false:=bne_eq_false_iff_eq.mpr c8
    clear c8
    by_cases c9 : (l2.length : Int) > 0
    ·rw [if_pos c9] at H
     have c9b0 : decide (0 < (l2.length : Int)) = true:=decide_eq_true c9
     have c9b1 : decide (0 < l2.length) = true:=decide_eq_true (by omega)
     clear c9
     simp only [Option.some.injEq,Prod.mk.injEq] at H
     obtain ⟨rfl,rfl⟩:=H
     go_enter Try.func32,Try.ntmps32
     go_wp2_with (first|((with_reducible refine gate_callee (f:=42) rfl ?_);refine goesL_ (some 9) rfl rfl Try.func42 (by kernel_rfl) rfl #[.int .i64 a0,.int .i64 1,.int .i64 2] rfl qm_ ?_;(with_reducible refine (impl_within.calls a0 1 2 true _ A4.out).mono ?_);rintro e w' ⟨rfl,⟨nd,rfl⟩⟩;refine ⟨_,rfl,?_⟩)|(go_at_call 42;(with_reducible refine (impl_within.calls a1 0 15 true _ A6.out).mono ?_);rintro e w' ⟨rfl,⟨nd,rfl⟩⟩))
     go_ret2
     exact ⟨_,qe_,by first|exact Kd.R_nil _ _ _ _ _|exact Kd.N_nil _ _ _ _ _|exact Kd.V_nil _ _ _ _ _|exact Kd.Q_nil _ _ _ _ _|exact Kd.S_nil _ _ _ _ _,u0_ HB⟩
    ·rw [if_neg c9] at H
     have c9b0 : decide (0 < (l2.length : Int)) = false:=decide_eq_false c9
     have c9b1 : decide (0 < l2.length) = false:=decide_eq_false (by omega)
     clear c9
     obtain ⟨y120,hy120⟩ : ∃ y_ : List Int,y_ = (([(wrap64 ((wrap64 (16 * a0)) + a1)) % 256] : List Int)):=⟨_,rfl⟩
     replace H : (if y120.length + l2.length < 140737488355328 then ((impl_AddCrc.f k (y120 ++ l2)).bind fun bt126 => (some (bt126.1,bt126.2))) else (none)) = some (r1,r2):=by first|(rw [hy120];with_reducible exact H)|(have H2_:=(Option.bind_some _ _).symm.trans H;rw [hy120];with_reducible exact H2_)|(have H2_:=(Option.bind_some _ _).symm.trans H;with_reducible exact H2_)|with_reducible exact H|(rw [hy120];exact H)|exact H
     have Ny120:=mk_ hy120
     clear hy120
     by_cases c10 : y120.length + l2.length < 140737488355328
     ·rw [if_pos c10] at H
      have LMc10:=mk_ c10
      clear c10
      obtain ⟨y123,hy123⟩ : ∃ y_ : List Int,y_ = (y120 ++ l2):=⟨_,rfl⟩
      replace H : ((impl_AddCrc.f k y123).bind fun bt126 => (some (bt126.1,bt126.2))) = some (r1,r2):=by first|(rw [hy123];with_reducible exact H)|(have H2_:=(Option.bind_some _ _).symm.trans H;rw [hy123];with_reducible exact H2_)|(have H2_:=(Option.bind_some _ _).symm.trans H;with_reducible exact H2_)|with_reducible exact H|(rw [hy123];exact H)|exact H
      have Ny123:=mk_ hy123
      clear hy123
      replace H:=Option.bind_eq_some_iff.mp H
      obtain ⟨⟨t126,t127⟩,A110,H⟩:=H
      replace H : (some (t126,t127)) = some (r1,r2):=H
      have A11:=mk_ A110
      clear A110
      simp only [Option.some.injEq,Prod.mk.injEq] at H
      obtain ⟨rfl,rfl⟩:=H
      go_enter Try.func32,Try.ntmps32
      go_wp2_with (first|((with_reducible refine gate_callee (f:=42) rfl ?_);refine goesL_ (some 9) rfl rfl Try.func42 (by kernel_rfl) rfl #[.int .i64 a0,.int .i64 1,.int .i64 2] rfl qm_ ?_;(with_reducible refine (impl_within.calls a0 1 2 true _ A4.out).mono ?_);rintro e w' ⟨rfl,⟨nd,rfl⟩⟩;refine ⟨_,rfl,?_⟩)|(go_at_call 42;(with_reducible refine (impl_within.calls a1 0 15 true _ A6.out).mono ?_);rintro e w' ⟨rfl,⟨nd,rfl⟩⟩)|((with_reducible refine gate_dst (N:=30) rfl ?_);(try (refine gate_guard (by rfl) ?_;dsimp only));refine Kd.R_lit (Kd.int .u8) _ 5 ?hg (N:=30) ?hd (xs:=([(wrap64 ((wrap64 (16 * a0)) + a1)) % 256] : List Int)) (inner:=[.int .u8 ((wrap64 ((wrap64 (16 * a0)) + a1)) % 256)]) (ok:=fun _ => True) (okp:=fun _ => True) ?hr ?hp (fun _ hk => hk) trivial (Below.refl _ _) (Nat.le_refl _) (by simp) ?_;(case hd => rfl);(case hg => rfl);(case hr => first|(go_simp;done)|(go_simp;rfl));(case hp => exact (Reps.one (show Kd.M (Kd.int .u8) _ _ _ ((wrap64 ((wrap64 (16 * a0)) + a1)) % 256) [.int .u8 ((wrap64 ((wrap64 (16 * a0)) + a1)) % 256)] from rfl) (Reps.none _ _)));intro v121 w12 ho13 hb hg_ hnew_;clear hg_ hnew_;(first|rw [← Ny120.out] at ho13|(simp only [Int.reduceToNat] at ho13;rw [← Ny120.out] at ho13));have n0_:=mk_ (Kd.R_lower ho13 (bz_ (qb_ HB)));have n1_:=mk_ (st_ (qb_ HB) hb);clear HB;have HO122:=n0_;have HB:=n1_;clear n0_ n1_ hb ho13)|((with_reducible refine gate_builtin (b:=.append) (xs:=#[.tmp 30,.tmp 31]) rfl ?_);(try (refine gate_guard (by rfl) ?_;dsimp only));at_builtin;refine Kd.R_append_rows (Kd.int .u8) (w0:=w) w.heap.size rfl (.tmp 30) (.tmp 31) 22 5 (.int .u8 0) 1 rfl Try.underlying22 info5 rfl (by decide) (by omega) v121 y120 l2 _ _ _ (fun _ => True) (fun _ => False) rfl rfl ?aO ?aR (fun _ _ h => h) (fun _ h => h.elim) ?aF ?aB ?aS ?aL ?_;(case aR => exact qn_ HR2 HB);(case aB => exact (qb_ HB));(case aF => exact (fun _ _ => trivial));(case aO => exact (qr_ HO122));(case aS => exact (bz_ (qb_ HB)));(case aL => have:=LMc10.out;omega);intro v124 w14 ho hb hg hat;rw [← Ny123.out] at ho;have n0_:=mk_ (hb);have n1_:=mk_ (ho);clear HB HO122;have HB:=n0_;have HO125:=n1_;clear n0_ n1_ ho hb hg hat;obtain ⟨Ao15,co15,eo15⟩:=Kd.R_slice HO125.out;subst eo15)|((with_reducible refine gate_callee (f:=52) rfl ?_);refine goesL_ (some 33) rfl rfl Try.func52 (by kernel_rfl) rfl #[.slice Ao15 y123.length co15] rfl qm_ ?_;(with_reducible refine (impl_AddCrc.calls k _ _ y123 t126 t127 _ ?side1 ?side2 A11.out).mono ?_);(case side1 => repeat (first|exact (rr_ HO125.out).2.2|(with_reducible refine ca_ ?_ _)|(with_reducible refine cn_ ?_ _)|(with_reducible refine cd_ ?_)));(case side2 => exact (rr_ HO125.out).2.1);rintro e w16 ⟨v128,rfl,ho0,hb⟩;refine ⟨_,rfl,?_⟩;have n0_:=mk_ (re_ (qr_ HO125) (Kd.R_base ho0) hb);have n1_:=mk_ (Kd.R_lower (Kd.R_new' ho0 (Kd.R_lt (qr_ HO125))) (bz_ (qb_ HB)));have n2_:=mk_ (st_ (qb_ HB) hb);clear HO125 HB;have HO125:=n0_;have HO129:=n1_;have HB:=n2_;clear n0_ n1_ n2_;(try clear hb);(try clear hb2);(try clear hk);(try clear hi);(try clear ho0)))
      go_ret2
      exact ⟨_,qe_,by (with_reducible repeat (first|apply ra_|apply rn_|apply rd_));exact rm_ HO129.out (λ_ _=>trivial),u0_ HB⟩
     ·rw [if_neg c10] at H
      exact absurd H (by simp)
   ·rw [if_neg c8] at H
    have c8b0 : (a0 == 2) = false:=beq_eq_false_iff_ne.mpr c8
    have c8b1 : (a0 != 2) = true:=bne_iff_ne.mpr c8
    obtain ⟨y130,hy130⟩ : ∃ y_ : List Int,y_ = (([(wrap64 ((wrap64 (16 * a0)) + a1)) % 256] : List Int)):=⟨_,rfl⟩
    replace H : (if y130.length + l2.length < 140737488355328 then ((impl_AddCrc.f k (y130 ++ l2)).bind fun bt136 => (some (bt136.1,bt136.2))) else (none)) = some (r1,r2):=by first|(rw [hy130];with_reducible exact H)|(have H2_:=(Option.bind_some _ _).symm.trans H;rw [hy130];with_reducible exact H2_)|(have H2_:=(Option.bind_some _ _).symm.trans H;with_reducible exact H2_)|with_reducible exact H|(rw [hy130];exact H)|exact H
    have Ny130:=mk_ hy130
    clear hy130
    by_cases c17 : y130.length + l2.length < 140737488355328
    ·rw [if_pos c17] at H
     have LMc17:=mk_ c17
     clear c17
     obtain ⟨y133,hy133⟩ : ∃ y_ : List Int,y_ = (y130 ++ l2):=⟨_,rfl⟩
     replace H : ((impl_AddCrc.f k y133).bind fun bt136 => (some (bt136.1,bt136.2))) = some (r1,r2):=by first|(rw [hy133];with_reducible exact H)|(have H2_:=(Option.bind_some _ _).symm.trans H;rw [hy133];with_reducible exact H2_)|(have H2_:=(Option.bind_some _ _).symm.trans H;with_reducible exact H2_)|with_reducible exact H|(rw [hy133];exact H)|exact H
     have Ny133:=mk_ hy133
     clear hy133
     replace H:=Option.bind_eq_some_iff.mp H
     obtain ⟨⟨t136,t137⟩,A180,H⟩:=H
     replace H : (some (t136,t137)) = some (r1,r2):=H
     have A18:=mk_ A180
     clear A180
     simp only [Option.some.injEq,Prod.mk.injEq] at H
     obtain ⟨rfl,rfl⟩:=H
     go_enter Try.func32,Try.ntmps32
     go_wp2_with (first|((with_reducible refine gate_callee (f:=42) rfl ?_);refine goesL_ (some 9) rfl rfl Try.func42 (by kernel_rfl) rfl #[.int .i64 a0,.int .i64 1,.int .i64 2] rfl qm_ ?_;(with_reducible refine (impl_within.calls a0 1 2 true _ A4.out).mono ?_);rintro e w' ⟨rfl,⟨nd,rfl⟩⟩;refine ⟨_,rfl,?_⟩)|(go_at_call 42;(with_reducible refine (impl_within.calls a1 0 15 true _ A6.out).mono ?_);rintro e w' ⟨rfl,⟨nd,rfl⟩⟩)|((with_reducible refine gate_dst (N:=30) rfl ?_);(try (refine gate_guard (by rfl) ?_;dsimp only));refine Kd.R_lit (Kd.int .u8) _ 5 ?hg (N:=30) ?hd (xs:=([(wrap64 ((wrap64 (16 * a0)) + a1)) % 256] : List Int)) (inner:=[.int .u8 ((wrap64 ((wrap64 (16 * a0)) + a1)) % 256)]) (ok:=fun _ => True) (okp:=fun _ => True) ?hr ?hp (fun _ hk => hk) trivial (Below.refl _ _) (Nat.le_refl _) (by simp) ?_;(case hd => rfl);(case hg => rfl);(case hr => first|(go_simp;done)|(go_simp;rfl));(case hp => exact (Reps.one (show Kd.M (Kd.int .u8) _ _ _ ((wrap64 ((wrap64 (16 * a0)) + a1)) % 256) [.int .u8 ((wrap64 ((wrap64 (16 * a0)) + a1)) % 256)] from rfl) (Reps.none _ _)));intro v131 w19 ho20 hb hg_ hnew_;clear hg_ hnew_;(first|rw [← Ny130.out] at ho20|(simp only [Int.reduceToNat] at ho20;rw [← Ny130.out] at ho20));have n0_:=mk_ (Kd.R_lower ho20 (bz_ (qb_ HB)));have n1_:=mk_ (st_ (qb_ HB) hb);clear HB;have HO132:=n0_;have HB:=n1_;clear n0_ n1_ hb ho20)|((with_reducible refine gate_builtin (b:=.append) (xs:=#[.tmp 30,.tmp 31]) rfl ?_);(try (refine gate_guard (by rfl) ?_;dsimp only));at_builtin;refine Kd.R_append_rows (Kd.int .u8) (w0:=w) w.heap.size rfl (.tmp 30) (.tmp 31) 22 5 (.int .u8 0) 1 rfl Try.underlying22 info5 rfl (by decide) (by omega) v131 y130 l2 _ _ _ (fun _ => True) (fun _ => False) rfl rfl ?aO ?aR (fun _ _ h => h) (fun _ h => h.elim) ?aF ?aB ?aS ?aL ?_;(case aR => exact qn_ HR2 HB);(case aB => exact (qb_ HB));(case aF => exact (fun _ _ => trivial));(case aO => exact (qr_ HO132));(case aS => exact (bz_ (qb_ HB)));(case aL => have:=LMc17.out;omega);intro v134 w21 ho hb hg hat;rw [← Ny133.out] at ho;have n0_:=mk_ (hb);have n1_:=mk_ (ho);clear HB HO132;have HB:=n0_;have HO135:=n1_;clear n0_ n1_ ho hb hg hat;obtain ⟨Ao22,co22,eo22⟩:=Kd.R_slice HO135.out;subst eo22)|((with_reducible refine gate_callee (f:=52) rfl ?_);refine goesL_ (some 33) rfl rfl Try.func52 (by kernel_rfl) rfl #[.slice Ao22 y133.length co22] rfl qm_ ?_;(with_reducible refine (impl_AddCrc.calls k _ _ y133 t136 t137 _ ?side1 ?side2 A18.out).mono ?_);(case side1 => repeat (first|exact (rr_ HO135.out).2.2|(with_reducible refine ca_ ?_ _)|(with_reducible refine cn_ ?_ _)|(with_reducible refine cd_ ?_)));(case side2 => exact (rr_ HO135.out).2.1);rintro e w23 ⟨v138,rfl,ho0,hb⟩;refine ⟨_,rfl,?_⟩;have n0_:=mk_ (re_ (qr_ HO135) (Kd.R_base ho0) hb);have n1_:=mk_ (Kd.R_lower (Kd.R_new' ho0 (Kd.R_lt (qr_ HO135))) (bz_ (qb_ HB)));have n2_:=mk_ (st_ (qb_ HB) hb);clear HO135 HB;have HO135:=n0_;have HO139:=n1_;have HB:=n2_;clear n0_ n1_ n2_;(try clear hb);(try clear hb2);(try clear hk);(try clear hi);(try clear ho0)))
     go_ret2
     exact ⟨_,qe_,by (with_reducible repeat (first|apply ra_|apply rn_|apply rd_));exact rm_ HO139.out (λ_ _=>trivial),u0_ HB⟩
    ·rw [if_neg c17] at H
     exact absurd H (by simp)
  ·replace c7:=Bool.eq_false_iff.mpr c7
   subst c7
   have H1 : (some (([] : List Int),false)) = some (r1,r2):=by rw [if_neg (show ¬ (false = true) by decide)] at H;exact H
   clear H
   have H:=H1
   clear H1
   simp only [Option.some.injEq,Prod.mk.injEq] at H
   obtain ⟨rfl,rfl⟩:=H
   go_enter Try.func32,Try.ntmps32
   go_wp2_with (first|((with_reducible refine gate_callee (f:=42) rfl ?_);refine goesL_ (some 9) rfl rfl Try.func42 (by kernel_rfl) rfl #[.int .i64 a0,.int .i64 1,.int .i64 2] rfl qm_ ?_;(with_reducible refine (impl_within.calls a0 1 2 true _ A4.out).mono ?_);rintro e w' ⟨rfl,⟨nd,rfl⟩⟩;refine ⟨_,rfl,?_⟩)|(go_at_call 42;(with_reducible refine (impl_within.calls a1 0 15 false _ A6.out).mono ?_);rintro e w' ⟨rfl,⟨nd,rfl⟩⟩))
   go_ret2
   exact ⟨_,qe_,by first|exact Kd.R_nil _ _ _ _ _|exact Kd.N_nil _ _ _ _ _|exact Kd.V_nil _ _ _ _ _|exact Kd.Q_nil _ _ _ _ _|exact Kd.S_nil _ _ _ _ _,u0_ HB⟩
 ·replace c5:=Bool.eq_false_iff.mpr c5
  subst c5
  have H1 : (some (([] : List Int),false)) = some (r1,r2):=by rw [if_neg (show ¬ (false = true) by decide)] at H;exact H
  clear H
  have H:=H1
  clear H1
  simp only [Option.some.injEq,Prod.mk.injEq] at H
  obtain ⟨rfl,rfl⟩:=H
  go_enter Try.func32,Try.ntmps32
  go_wp2_with (first|((with_reducible refine gate_callee (f:=42) rfl ?_);refine goesL_ (some 9) rfl rfl Try.func42 (by kernel_rfl) rfl #[.int .i64 a0,.int .i64 1,.int .i64 2] rfl qm_ ?_;(with_reducible refine (impl_within.calls a0 1 2 false _ A4.out).mono ?_);rintro e w' ⟨rfl,⟨nd,rfl⟩⟩;refine ⟨_,rfl,?_⟩))
  go_ret2
  exact ⟨_,qe_,by first|exact Kd.R_nil _ _ _ _ _|exact Kd.N_nil _ _ _ _ _|exact Kd.V_nil _ _ _ _ _|exact Kd.Q_nil _ _ _ _ _|exact Kd.S_nil _ _ _ _ _,u0_ HB⟩

/-! ### impl_canSend: function 66 -/
def impl_canSend.f (l0 : List Int) (a1 : Int) : Option (Bool):=(impl_FatesValid.f l0).bind fun t140 => (if t140 = true then ((impl_within.f a1 0 60).bind fun t141 => (some t141)) else (some false))
set_option maxHeartbeats 8000000 in
set_option maxRecDepth 100000 in
theorem impl_canSend.calls (A0 : Option Addr) (c0 : Nat) (l0 : List Int) (a1 : Int) (r : Bool) (w : World) (hr0 : Kd.C (Kd.int .i64) w A0 l0.length l0) (hc0 : l0.length ≤ c0) (h : impl_canSend.f l0 a1 = some r) :
  Calls Try.prog 66 #[.slice A0 l0.length c0,.int .i64 a1] w fun e w' => e = .returned (.bool r) ∧ Below w.heap.size w w':=by
 have HR0:=mk_ hr0
 have HC0:=mk_ hc0
 clear hr0 hc0
 have HB:=mk_ (Below.refl w.heap.size w)
 have H : ((impl_FatesValid.f l0).bind fun t140 => (if t140 = true then ((impl_within.f a1 0 60).bind fun t141 => (some t141)) else (some false))) = some r:=h
 clear h
 replace H:=Option.bind_eq_some_iff.mp H
 obtain ⟨t140,A30,H⟩:=H
 replace H : (if t140 = true then ((impl_within.f a1 0 60).bind fun t141 => (some t141)) else (some false)) = some r:=H
 have A3:=mk_ A30
 clear A30
 by_cases c4 : t140 = true
 ·subst c4
  have H1 : ((impl_within.f a1 0 60).bind fun t141 => (some t141)) = some r:=by rw [if_pos rfl] at H;exact H
  clear H
  have H:=H1
  clear H1
  replace H:=Option.bind_eq_some_iff.mp H
  obtain ⟨t141,A50,H⟩:=H
  replace H : (some t141) = some r:=H
  have A5:=mk_ A50
  clear A50
  obtain rfl:=Option.some.inj H
  go_enter Try.func66,Try.ntmps66
  go_wp2_with (first|((with_reducible refine gate_callee (f:=43) rfl ?_);refine goesL_ (some 6) rfl rfl Try.func43 (by kernel_rfl) rfl #[.slice A0 l0.length c0] rfl qm_ ?_;(with_reducible refine (impl_FatesValid.calls _ _ l0 true _ ?side1 ?side2 A3.out).mono ?_);(case side1 => repeat (first|exact HR0.out|(with_reducible refine ca_ ?_ _)|(with_reducible refine cn_ ?_ _)|(with_reducible refine cd_ ?_)));(case side2 => exact HC0.out);rintro e w6 ⟨rfl,hb⟩;refine ⟨_,rfl,?_⟩;have n0_:=mk_ (st_ (qb_ HB) hb);clear HB;have HB:=n0_;clear n0_;(try clear hb);(try clear hb2);(try clear hk);(try clear hi))|(go_at_call 42;(with_reducible refine (impl_within.calls a1 0 60 t141 _ A5.out).mono ?_);rintro e w' ⟨rfl,⟨nd,rfl⟩⟩))
  go_ret
  exact ⟨qe_,u0_ HB⟩
 ·replace c4:=Bool.eq_false_iff.mpr c4
  subst c4
  have H1 : (some false) = some r:=by rw [if_neg (show ¬ (false = true) by decide)] at H;exact H
  clear H
  have H:=H1
  clear H1
  obtain rfl:=Option.some.inj H
  go_enter Try.func66,Try.ntmps66
  go_wp2_with (first|((with_reducible refine gate_callee (f:=43) rfl ?_);refine goesL_ (some 6) rfl rfl Try.func43 (by kernel_rfl) rfl #[.slice A0 l0.length c0] rfl qm_ ?_;(with_reducible refine (impl_FatesValid.calls _ _ l0 false _ ?side1 ?side2 A3.out).mono ?_);(case side1 => repeat (first|exact HR0.out|(with_reducible refine ca_ ?_ _)|(with_reducible refine cn_ ?_ _)|(with_reducible refine cd_ ?_)));(case side2 => exact HC0.out);rintro e w7 ⟨rfl,hb⟩;refine ⟨_,rfl,?_⟩;have n0_:=mk_ (st_ (qb_ HB) hb);clear HB;have HB:=n0_;clear n0_;(try clear hb);(try clear hb2);(try clear hk);(try clear hi)))
  go_ret
  exact ⟨qe_,u0_ HB⟩

/-! ### impl_fate: function 71 -/
def impl_fate.f (l0 : List Int) (a1 : Int) : Option (Int):=if a1 < (l0.length : Int) then (if 0 ≤ a1 then (some (rd l0 a1)) else (none)) else (some 0)
set_option maxHeartbeats 8000000 in
set_option maxRecDepth 100000 in
theorem impl_fate.calls (A0 : Option Addr) (c0 : Nat) (l0 : List Int) (a1 : Int) (r : Int) (w : World) (hr0 : Kd.C (Kd.int .i64) w A0 l0.length l0) (hc0 : l0.length ≤ c0) (h : impl_fate.f l0 a1 = some r) :
  Calls Try.prog 71 #[.slice A0 l0.length c0,.int .i64 a1] w fun e w' => e = .returned (.int .i64 r) ∧ Drawn0 w w':=by
 have HR0:=mk_ hr0
 have HC0:=mk_ hc0
 clear hr0 hc0
 have H : (if a1 < (l0.length : Int) then (if 0 ≤ a1 then (some (rd l0 a1)) else (none)) else (some 0)) = some r:=h
 clear h
 by_cases c3 : a1 < (l0.length : Int)
 ·rw [if_pos c3] at H
  have c3b0 : decide (a1 < (l0.length : Int)) = true:=decide_eq_true c3
  clear c3
  by_cases c4 : 0 ≤ a1
  ·rw [if_pos c4] at H
   have c4b0 : decide (0 ≤ a1) = true:=decide_eq_true c4
   clear c4
   obtain rfl:=Option.some.inj H
   have p142 : 0 ≤ (a1 : Int):=od_ qa_
   have q142 : a1 < (l0.length : Int):=od_ qa_
   obtain ⟨ad142,e142,hx142_0⟩:=Kd.at_int HR0.out a1 p142 q142
   cases e142
   replace p142:=eq_true p142
   replace q142:=eq_true q142
   go_enter Try.func71,Try.ntmps71
   go_wp2
   go_ret
   exact ⟨by first|rfl|(simp;done)|(simp [*];done),by repeat (first|exact Drawn0.refl _|apply Drawn0.step)⟩
  ·rw [if_neg c4] at H
   exact absurd H (by simp)
 ·rw [if_neg c3] at H
  have c3b0 : decide (a1 < (l0.length : Int)) = false:=decide_eq_false c3
  clear c3
  obtain rfl:=Option.some.inj H
  go_enter Try.func71,Try.ntmps71
  go_wp2
  go_ret
  exact ⟨by first|rfl|(simp;done)|(simp [*];done),by repeat (first|exact Drawn0.refl _|apply Drawn0.step)⟩

-- LIB arrcmp
/-- cmp.Compare of whole numbers. -/
def cmpI (x y : Int) : Int:=if x < y then -1 else if y < x then 1 else 0
theorem x_isNaN (x : Int) (w : World) : Calls Try.prog 95 #[.int .i64 x] w fun e w' => e = .returned (.bool false) ∧ w' = w:=by
  go_enter Try.func95,Try.ntmps95
  go_wp2
  go_ret
  exact ⟨by simp,rfl⟩
set_option maxHeartbeats 4000000 in
set_option maxRecDepth 100000 in
theorem x_cmpI (x y : Int) (w : World) : Calls Try.prog 84 #[.int .i64 x,.int .i64 y] w fun e w' => e = .returned (.int .i64 (cmpI x y)) ∧ w' = w:=by
  have h1:=fun w => x_isNaN x w
  have h2:=fun w => x_isNaN y w
  unfold cmpI
  by_cases c : x < y
  · have p1 : (x < y) = True:=eq_true c
    rw [if_pos c]
    clear c
    go_enter Try.func84,Try.ntmps84
    go_wp2_with fail
    refine (h1 _).mono ?_
    rintro e w1 ⟨rfl,rfl⟩
    go_wp2_with fail
    refine (h2 _).mono ?_
    rintro e w2 ⟨rfl,rfl⟩
    go_wp2_with fail
    go_ret
    exact ⟨rfl,rfl⟩
  · by_cases d : y < x
    · have p1 : (x < y) = False:=eq_false c
      have p2 : (y < x) = True:=eq_true d
      rw [if_neg c,if_pos d]
      clear c d
      go_enter Try.func84,Try.ntmps84
      go_wp2_with fail
      refine (h1 _).mono ?_
      rintro e w1 ⟨rfl,rfl⟩
      go_wp2_with fail
      refine (h2 _).mono ?_
      rintro e w2 ⟨rfl,rfl⟩
      go_wp2_with fail
      go_ret
      exact ⟨rfl,rfl⟩
    · have p1 : (x < y) = False:=eq_false c
      have p2 : (y < x) = False:=eq_false d
      rw [if_neg c,if_neg d]
      clear c d
      go_enter Try.func84,Try.ntmps84
      go_wp2_with fail
      refine (h1 _).mono ?_
      rintro e w1 ⟨rfl,rfl⟩
      go_wp2_with fail
      refine (h2 _).mono ?_
      rintro e w2 ⟨rfl,rfl⟩
      go_wp2_with fail
      go_ret
      exact ⟨rfl,rfl⟩
set_option maxHeartbeats 4000000 in
set_option maxRecDepth 100000 in
theorem x_or2 (a b : Int) (g : Nat) (c : Nat) (z : Int) (hz : z = if a = 0 then b else a) (w : World) (h0 : w.cell? ⟨g, 0, none⟩ = some (.int .i64 a)) (h1 : w.cell? ⟨g, 1, none⟩ = some (.int .i64 b)) :
    Calls Try.prog 83 #[.slice (some ⟨g,0,none⟩) 2 c] w fun e w' => e = .returned (.int .i64 z) ∧ w' = w:=by
  have HZ:=Aside0.mk hz
  clear hz
  go_enter Try.func83,Try.ntmps83
  go_wp2
  go_loopg [5,8] 2 (fun gg _ s8 wr => ∃ kk : Nat,kk ≤ 2 ∧ 2 - kk ≤ gg ∧ s8 = .int .i64 kk ∧ wr = w ∧ (1 ≤ kk → a = 0) ∧ (kk = 2 → b = 0))
  case atStart => exact ⟨0,by omega,by omega,rfl,rfl,by omega,by omega⟩
  case round =>
    obtain ⟨kk,hk,hg,rfl,rfl,ha,hb⟩:=hrel
    by_cases e0 : kk = 0
    · subst e0
      clear ha hb
      by_cases ca : a = 0
      · subst ca
        go_wp2
        go_roundg 1
        case measure => omega
        case rel => exact ⟨1,by omega,by omega,by go_num,rfl,by simp,by simp⟩
      · have p3 : (a != 0) = true:=by simp [ca]
        have HC:=Aside0.mk ca
        clear ca
        go_wp2
        go_ret
        exact ⟨by rw [HZ.out,if_neg HC.out];rfl,rfl⟩
    · by_cases e1 : kk = 1
      · subst e1
        obtain rfl:=ha (by omega)
        clear ha hb e0
        by_cases cb : b = 0
        · subst cb
          go_wp2
          go_roundg 0
          case measure => omega
          case rel => exact ⟨2,by omega,by omega,by go_num,rfl,by simp,by simp⟩
        · have p3 : (b != 0) = true:=by simp [cb]
          clear cb
          go_wp2
          go_ret
          exact ⟨by rw [HZ.out,if_pos trivial];rfl,rfl⟩
      · have e2 : kk = 2:=by omega
        subst e2
        obtain rfl:=ha (by omega)
        obtain rfl:=hb rfl
        clear ha hb e0 e1
        go_wp2
        go_ret
        exact ⟨by rw [HZ.out,if_pos trivial];rfl,rfl⟩
/-- The order of arrivals: by time, then by index. -/
def cmpA (t1 i1 t2 i2 : Int) : Int:=if cmpI t1 t2 = 0 then cmpI i1 i2 else cmpI t1 t2
set_option maxHeartbeats 4000000 in
set_option maxRecDepth 100000 in
theorem x_cmpA (t1 i1 t2 i2 : Int) (w : World) :
    Calls Try.prog 82 #[.agg #[.int .i64 t1,.int .i64 i1],.agg #[.int .i64 t2,.int .i64 i2]] w fun e w' => e = .returned (.int .i64 (cmpA t1 i1 t2 i2)) ∧ Below w.heap.size w w':=by
  have hu:=Try.underlying91
  have hA:=fun w => x_cmpI t1 t2 w
  have hI:=fun w => x_cmpI i1 i2 w
  have HZ : Aside0 (cmpA t1 i1 t2 i2 = if cmpI t1 t2 = 0 then cmpI i1 i2 else cmpI t1 t2):=⟨rfl⟩
  generalize cmpA t1 i1 t2 i2 = z at HZ ⊢
  generalize cmpI t1 t2 = ca at HZ hA
  generalize cmpI i1 i2 = ci at HZ hI
  have hb1 : Below w.heap.size w (w.alloc (.cells #[.int .i64 t1,.int .i64 i1] 91)):=below_alloc (Below.refl _ w) _
  have hb2:=below_alloc hb1 (.cells #[.int .i64 t2,.int .i64 i2] 91)
  have hn1:=blk_alloc (blk_new w (.cells #[.int .i64 t1,.int .i64 i1] 91)) (.cells #[.int .i64 t2,.int .i64 i2] 91)
  have hn2:=blk_new (w.alloc (.cells #[.int .i64 t1,.int .i64 i1] 91)) (.cells #[.int .i64 t2,.int .i64 i2] 91)
  have HB2:=Aside0.mk hb2
  have HN1:=Aside0.mk hn1
  have HN2:=Aside0.mk hn2
  clear hb1 hb2 hn1 hn2
  go_enter Try.func82,Try.ntmps82
  go_wp2_with fail
  generalize (w.alloc (.cells #[.int .i64 t1,.int .i64 i1] 91)).alloc (.cells #[.int .i64 t2,.int .i64 i2] 91) = W2 at HB2 HN1 HN2 ⊢
  have hs : (w.alloc (.cells #[.int .i64 t1,.int .i64 i1] 91)).heap.size = w.heap.size + 1:=by simp
  rw [hs] at HN2
  have k0 : W2.cell? ⟨w.heap.size,0,none⟩ = some (.int .i64 t1):=(blk_cell HN1.out 0).trans rfl
  have k1 : W2.cell? ⟨w.heap.size,1,none⟩ = some (.int .i64 i1):=(blk_cell HN1.out 1).trans rfl
  have k2 : W2.cell? ⟨w.heap.size + 1,0,none⟩ = some (.int .i64 t2):=(blk_cell HN2.out 0).trans rfl
  have k3 : W2.cell? ⟨w.heap.size + 1,1,none⟩ = some (.int .i64 i2):=(blk_cell HN2.out 1).trans rfl
  clear hs
  have HSZ : Aside0 (w.heap.size ≤ W2.heap.size):=⟨HB2.out.size⟩
  have e0:=World.new_ne W2 ⟨w.heap.size,0,none⟩ k0
  have e1:=World.new_ne W2 ⟨w.heap.size + 1,0,none⟩ k2
  generalize hg1 : w.heap.size = g1 at *
  have HG:=Aside0.mk hg1
  clear hg1
  go_region_held3 (fun w' => w'.cell? ⟨g1,0,none⟩ = some (.int .i64 t1) ∧ w'.cell? ⟨g1,1,none⟩ = some (.int .i64 i1) ∧ w'.cell? ⟨g1 + 1,0,none⟩ = some (.int .i64 t2) ∧ w'.cell? ⟨g1 + 1,1,none⟩ = some (.int .i64 i2)) (go_keep)
    (first
      | (go_at_call_of 84 (Value.int IntKind.i64 t1);refine (hA _).mono ?_;rintro e w' ⟨rfl,rfl⟩)
      | (go_at_call_of 84 (Value.int IntKind.i64 i1);refine (hI _).mono ?_;rintro e w' ⟨rfl,rfl⟩)
      | (go_at_call 83;refine (x_or2 ca ci _ 2 z HZ.out _ ?h0 ?h1).mono ?_;(case h0 => simp);(case h1 => simp);rintro e w' ⟨rfl,rfl⟩))
  go_wp2
  go_ret
  exact ⟨rfl,by rw [HG.out];exact below_drew1 (HB2.out.alloc HSZ.out _)⟩

-- LIB maparr
/-- Arrivals: a time and an index. -/
def kArr : Kd (Int × Int):=Kd.pair (Kd.int .i64) (Kd.int .i64)
theorem kArr_open {w : World} {x : Int × Int} {cs : List Value} (h : kArr.K w x cs) : cs = [.int .i64 x.1,.int .i64 x.2]:=by
  obtain ⟨_,_,rfl,rfl,rfl⟩:=h
  rfl
theorem at_Arr {w : World} {A : Option Addr} {xs : List (Int × Int)} (h : Kd.C kArr w A xs.length xs) (i : Nat) (hi : i < xs.length) :
    ∃ ad,A = some ad ∧ w.cell? (ad.add (i * 2)) = some (.int .i64 xs[i].1) ∧ w.cell? ⟨(ad.add (i * 2)).block,(ad.add (i * 2)).off + 1,none⟩ = some (.int .i64 xs[i].2):=by
  obtain ⟨ad,c,e,_,hK,hc0⟩:=Kd.C_get h (0,0) (i : Int) (by omega) (by omega)
  have hc : ∀ j u,c[j]? = some u → w.cell? (ad.add (i * 2 + j)) = some u:=hc0
  obtain rfl:=kArr_open hK
  have e1 : xs.getD (i : Int).toNat (0,0) = xs[i]:=by simp [List.getD_eq_getElem?_getD,hi]
  rw [e1] at hc
  exact ⟨ad,e,hc 0 _ rfl,by rw [← add_field _ _ 1 (by omega)];exact hc 1 _ rfl⟩
theorem x_arr2 (t i : Int) (W : World) : Calls Try.prog 86 #[.agg #[.int .i64 t,.int .i64 i]] W fun e w' => e = .returned (.int .i64 i) ∧ Below W.heap.size W w':=by
  have hu:=Try.underlying91
  have HB:=Aside0.mk (below_alloc (Below.refl _ W) (.cells #[.int .i64 t,.int .i64 i] 91))
  go_enter Try.func86,Try.ntmps86
  go_wp2
  go_ret
  exact ⟨rfl,HB.out⟩
set_option maxHeartbeats 8000000 in
set_option maxRecDepth 100000 in
theorem x_maparr (A0 : Option Addr) (c0 : Nat) (l0 : List (Int × Int)) (w : World) (hl : l0.length ≤ 1000) (hr0 : Kd.C kArr w A0 l0.length l0) :
    Calls Try.prog 85 #[.slice A0 l0.length c0,.func (.func 86) #[] #[]] w fun e w' => ∃ v : Value,e = .returned v ∧ Kd.R (Kd.int .i64) 3 w' w.heap.size (fun _ => True) v (l0.map Prod.snd) ∧ Below w.heap.size w w':=by
  have hu:=Try.underlying91
  have HR:=Aside0.mk hr0
  clear hr0
  go_enter Try.func85,Try.ntmps85
  go_wp2
  go_loopg [5,7,10] l0.length (fun gg s5 _ s10 wr => ∃ (kk : Nat) (v : Value),kk ≤ l0.length ∧ l0.length - kk ≤ gg ∧ v = s5 ∧ s10 = .int .i64 kk ∧
    Aside0 (Kd.R (Kd.int .i64) 3 wr w.heap.size (fun _ => True) v ((l0.take kk).map Prod.snd)) ∧ Aside0 (Below w.heap.size w wr))
  case atStart => exact ⟨0,_,Nat.zero_le _,by omega,rfl,rfl,⟨Kd.R_nil _ _ _ _ _⟩,⟨Below.refl _ w⟩⟩
  case round =>
    obtain ⟨kk,v,hkk,hgg,rfl,rfl,HO,BW⟩:=hrel
    by_cases hlt : kk < l0.length
    · obtain ⟨ad,e,hx0,hx1⟩:=at_Arr (Kd.C_below HR.out BW.out) kk hlt
      cases e
      have HX : Aside0 ((l0.take (kk + 1)).map Prod.snd = (l0.take kk).map Prod.snd ++ [l0[kk].2]):=⟨by rw [List.take_succ_eq_append_getElem hlt,List.map_append];rfl⟩
      have HLN : Aside0 (((l0.take kk).map Prod.snd).length = kk):=⟨by rw [List.length_map,List.length_take];omega⟩
      generalize l0[kk].1 = pa at hx0
      generalize l0[kk].2 = pi at hx1 HX
      have hcall:=fun W => x_arr2 pa pi W
      go_wp2_with fail
      refine (hcall _).mono ?_
      rintro e w1 ⟨rfl,hb1⟩
      have hb2:=(below_alloc (Below.refl _ wr) (.cells #[.int .i64 pa,.int .i64 pi] 91)).trans (hb1.mono (below_alloc (Below.refl _ wr) (.cells #[.int .i64 pa,.int .i64 pi] 91)).size)
      have HO1:=Aside0.mk (Kd.R_below HO.out hb2)
      have BW1:=Aside0.mk (below_step BW.out hb2)
      generalize (l0.take kk).map Prod.snd = T1 at HO1 HX HLN
      clear hb1 hb2 HO BW hcall
      have hl1 : T1.length + 1 ≤ 1001:=by have:=HLN.out;omega
      go_wp2_with (first | ((with_reducible refine gate_builtin (b:=.append) (xs:=#[.tmp 14,.tmp 18]) rfl ?_);at_builtin;refine Kd.R_append (Kd.int .i64) (w0:=w) w.heap.size rfl (.tmp 14) (.tmp 18) 24 3 (.int .i64 0) 8 rfl Try.underlying24 (by kernel_rfl) rfl (by decide) (by omega) v T1 pi [.int .i64 pi] (fun _ => True) (fun _ => False) rfl rfl ?aP (fun _ hk => hk.elim) ?aF ?aO ?aB ?aS ?aL ?_;(case aP => exact rfl);(case aB => exact BW1.out);(case aF => exact (fun _ _ => trivial));(case aO => exact HO1.out);(case aS => exact BW1.out.size);(case aL => omega);intro v2 w2 ho2 hb2 _ _;have HO2:=Aside0.mk ho2;have BW2:=Aside0.mk hb2;clear ho2 hb2))
      rw [← HX.out] at HO2
      go_roundg (l0.length - (kk + 1))
      case measure => omega
      case rel => exact ⟨kk + 1,v2,by omega,by omega,rfl,by go_num,HO2,BW2⟩
    · have e : kk = l0.length:=by omega
      subst e
      rw [List.take_length] at HO
      go_wp2
      go_ret
      exact ⟨v,rfl,HO.out,BW.out⟩

-- LIB insarr
/-- Neighbours changed; the one at j brought to its place; the first i brought into order, one by one. -/
def swA (xs : List (Int × Int)) (j : Nat) : List (Int × Int):=(xs.set (j + 1) (xs.getD j (0,0))).set j (xs.getD (j + 1) (0,0))
def lessA (x y : Int × Int) : Bool:=decide (cmpA x.1 x.2 y.1 y.2 < 0)
def inA : Nat → List (Int × Int) → List (Int × Int)
  | 0,xs => xs
  | j + 1,xs => if lessA (xs.getD (j + 1) (0,0)) (xs.getD j (0,0)) = true then inA j (swA xs j) else xs
def outA : Nat → List (Int × Int) → List (Int × Int)
  | 0,xs => xs
  | i + 1,xs => inA i (outA i xs)
theorem swA_len (xs : List (Int × Int)) (j : Nat) : (swA xs j).length = xs.length:=by unfold swA;rw [List.length_set,List.length_set]
theorem inA_len (j : Nat) : ∀ xs : List (Int × Int),(inA j xs).length = xs.length:=by
  induction j with
  | zero => intro xs;rfl
  | succ j ih =>
    intro xs
    rw [inA]
    split
    · rw [ih,swA_len]
    · rfl
theorem outA_len (i : Nat) (xs : List (Int × Int)) : (outA i xs).length = xs.length:=by
  induction i with
  | zero => rfl
  | succ i ih => rw [outA,inA_len,ih]
theorem add_blk (g k : Nat) : Addr.add ⟨g,0,none⟩ k = ⟨g,k,none⟩:=by
  unfold Addr.add
  split
  · subst_vars;rfl
  · simp
theorem at_ArrG {w : World} {base : Nat} {ok : Nat → Prop} {g cap : Nat} {n : Nat} {xs : List (Int × Int)} (h : Kd.R kArr 91 w base ok (.slice (some ⟨g, 0, none⟩) n cap) xs) (i : Nat) (hi : i < n) :
    w.cell? ⟨g,i * 2,none⟩ = some (.int .i64 (xs.getD i (0,0)).1) ∧ w.cell? ⟨g,i * 2 + 1,none⟩ = some (.int .i64 (xs.getD i (0,0)).2) ∧ ∀ o,w.frozen? ⟨g,o,none⟩ = false:=by
  obtain ⟨hn,_,hC⟩:=Kd.R_reads' h
  subst hn
  obtain ⟨ad,e,h0,h1⟩:=at_Arr hC i hi
  cases e
  obtain ⟨g2,cap2,hv,_,_,cells,hc⟩:=Kd.R_form h (by omega)
  injection hv with hv1 _ _
  injection hv1 with hv1
  injection hv1 with hv1
  subst hv1
  have e1 : xs.getD i (0,0) = xs[i]:=by simp [List.getD_eq_getElem?_getD,hi]
  rw [e1]
  rw [add_blk] at h0 h1
  exact ⟨h0,h1,fun o => blk_frozen hc o⟩
theorem putArr {w : World} {base : Nat} {ok : Nat → Prop} {g cap : Nat} {n : Nat} {xs : List (Int × Int)} (h : Kd.R kArr 91 w base ok (.slice (some ⟨g, 0, none⟩) n cap) xs) (i : Nat) (hi : i < n) (x : Int × Int) :
    Kd.R kArr 91 ((w.setCell ⟨g,i * 2,none⟩ (.int .i64 x.1)).setCell ⟨g,i * 2 + 1,none⟩ (.int .i64 x.2)) base ok (.slice (some ⟨g,0,none⟩) n cap) (xs.set i x):=by
  obtain ⟨h0,h1,_⟩:=at_ArrG h i hi
  have hs:=(Kd.R_seg (seg:=[.int .i64 x.1,.int .i64 x.2]) (x':=x) (j:=0) (c:=[.int .i64 (xs.getD i (0,0)).1,.int .i64 (xs.getD i (0,0)).2]) (okp:=fun _ => False) h (i : Int) (by omega) (by omega) rfl (by
    intro j u hj
    match j,hj with
    | 0,hj => injection hj with hj;subst hj;exact h0
    | 1,hj => injection hj with hj;subst hj;exact h1) (Nat.le_refl 2) ⟨[.int .i64 x.1],[.int .i64 x.2],rfl,rfl,rfl⟩ (fun _ hk => hk.elim)).1
  exact hs
theorem swArr {w : World} {base : Nat} {ok : Nat → Prop} {g cap : Nat} {n : Nat} {xs : List (Int × Int)} (h : Kd.R kArr 91 w base ok (.slice (some ⟨g, 0, none⟩) n cap) xs) (j : Nat) (hj : j + 1 < n) :
    Kd.R kArr 91 ((((w.setCell ⟨g,(j + 1) * 2,none⟩ (.int .i64 (xs.getD j (0,0)).1)).setCell ⟨g,(j + 1) * 2 + 1,none⟩ (.int .i64 (xs.getD j (0,0)).2)).setCell ⟨g,j * 2,none⟩ (.int .i64 (xs.getD (j + 1) (0,0)).1)).setCell ⟨g,j * 2 + 1,none⟩ (.int .i64 (xs.getD (j + 1) (0,0)).2)) base ok (.slice (some ⟨g,0,none⟩) n cap) (swA xs j) :=
  putArr (putArr h (j + 1) hj _) j (by omega) _

-- LIB insarr2
theorem goesV_ {P : Program} {ops : Array Oper} {Q : Exit → Act → World → Prop} {oi : Oper} {N : Option Tmp} {a : Act} {w : World} {K : Act → World → Prop} {f : FuncId} {fn : Func} {asL : Array Operand} {ts : Array TypeId} {o : Operand} (hf : P.funcs[f]? = some fn) (hname : (fn.name == "runtime.NumGoroutine") = false) (hb : fn.body.isSome = true) (args : Array Value)
    (hw : Region.wanted oi (yielded ops a.tmps) = true) (hN : oi.dst = N) (hop : oi.op = .call { callee:=.value o,args:=asL,argTypes:=ts }) (ho : a.eval o = .func (.func f) #[] #[]) (hargs : asL.map a.eval = args)
    (h : Calls P f args w fun e w' => ∃ v,e = .returned v ∧ K (a.put N v) w') : if Region.wanted oi (yielded ops a.tmps) = true then Oper.wp P oi a w K Q else K (a.put N undef) w:=by
  refine call_ f args hw hN ?_ h
  have he:=enters_ hf hname hb args w
  unfold execOp
  simp [hop,ho,resolve,Deferred.ofValue,invoke,hargs,he]
theorem below_drewt {w w1 w2 : World} (h : Below w.heap.size w w1) (h2 : Below w1.drew.heap.size w1.drew w2) : Below w.heap.size w w2:=below_step (below_drew1 h) h2
def insR4.T : Bool × List (List Nat × List Nat):=(true,[([],[]),([],[]),([0,1],[0,1]),([2],[2]),([3],[3]),([3],[3]),([3],[3]),([5,6,3],[3,5,6]),([7,3],[3,7]),([3],[3]),([3],[3]),([10,3],[3,10]),([9,11,3],[3,9,11]),([12,3],[3,12]),([4,8,13,3,3],[3,4,8,13]),([14,3],[3,14]),([3,15],[3,15])])
def insR4.B : List Nat:=[0,0,3,7,15,15,15,111,239,15,15,1039,3599,7695,16383,32767,65535]
theorem insR4.tab : rtab .any (opsOf Try.f99 4) = insR4.T:=by kernel_rfl
theorem insR4.bits : waitsOk insR4.T.2 insR4.B = true:=by kernel_rfl
def insR6.T : Bool × List (List Nat × List Nat):=(true,[([],[]),([],[]),([],[]),([],[]),([3],[3]),([],[]),([],[]),([6],[6]),([5,7],[5,7]),([8],[8]),([],[]),([],[]),([10,11],[10,11]),([12],[12]),([0,1,0,1,5,6,7,8,9,13],[0,1]),([14,9,0,1,5,6,7,8,9,13],[9,14]),([2,4,0,1,2,3,4,5,6,7,8,9,10,11,12,13,14,15],[2,4]),([16,13,15,0,1,2,3,4,5,6,7,8,9,10,11,12,13,14,15],[13,16])])
def insR6.B : List Nat:=[0,0,0,0,8,0,0,64,224,480,0,0,3072,7168,16355,32739,65535,131071]
theorem insR6.tab : rtab .any (opsOf Try.f99 6) = insR6.T:=by kernel_rfl
theorem insR6.bits : waitsOk insR6.T.2 insR6.B = true:=by kernel_rfl
set_option maxHeartbeats 8000000 in
set_option maxRecDepth 100000 in
theorem x_insArr (g cap : Nat) (xs : List (Int × Int)) (ok : Nat → Prop) (w0 w : World) (hl : xs.length ≤ 1000) (h1 : 1 ≤ xs.length) (hg0 : w0.heap.size ≤ g) (hB : Below w0.heap.size w0 w) (ho : Kd.R kArr 91 w w0.heap.size ok (.slice (some ⟨g, 0, none⟩) xs.length cap) xs) :
    Calls Try.prog 99 #[.slice (some ⟨g,0,none⟩) xs.length cap,.int .i64 0,.int .i64 xs.length,.func (.func 82) #[] #[]] w fun e w' => e = .returned (.tuple #[]) ∧ Kd.R kArr 91 w' w0.heap.size ok (.slice (some ⟨g,0,none⟩) xs.length cap) (outA xs.length xs) ∧ Below w0.heap.size w0 w':=by
  have hu:=Try.underlying91
  have hus:=Try.underlying89
  have hcap:=(Kd.R_reads' ho).2.1
  obtain ⟨n,hn⟩ : ∃ n,n = xs.length:=⟨_,rfl⟩
  rw [← hn] at ho hcap hl h1 ⊢
  have HO0:=Aside0.mk ho
  have HB0:=Aside0.mk hB
  have HN:=Aside0.mk hn
  clear ho hB hn
  go_enter Try.func99,Try.ntmps99
  go_wp2
  go_loopg [8,9] n (fun gg s8 _ wr => ∃ ii : Nat,1 ≤ ii ∧ ii ≤ n ∧ n - ii ≤ gg ∧ s8 = .int .i64 (ii : Int) ∧ Aside0 (Kd.R kArr 91 wr w0.heap.size ok (.slice (some ⟨g,0,none⟩) n cap) (outA ii xs)) ∧ Aside0 (Below w0.heap.size w0 wr))
  case atStart => exact ⟨1,by omega,by omega,by omega,by go_num,HO0,HB0⟩
  case round =>
    clear HO0 HB0
    obtain ⟨ii,hi1,hii,hgg,rfl,HO,BW⟩:=hrel
    by_cases hlt : ii < n
    · have p1 : ((ii : Int) < (n : Int)) = True:=eq_true (by omega)
      have HL : Aside0 ((outA ii xs).length = n):=⟨by rw [outA_len,HN.out]⟩
      have HX : Aside0 (outA (ii + 1) xs = inA ii (outA ii xs)):=⟨rfl⟩
      generalize outA ii xs = ys at HO HL HX
      go_wp2
      obtain ⟨wo,rfl⟩ : ∃ wo : World,wo = wr:=⟨_,rfl⟩
      go_loopg [9] ii (fun gg s9 wr => ∃ (jj : Nat) (zs : List (Int × Int)),jj ≤ ii ∧ jj ≤ gg ∧ s9 = .int .i64 (jj : Int) ∧ zs.length = n ∧ Aside0 (inA jj zs = inA ii ys) ∧ Aside0 (Kd.R kArr 91 wr w0.heap.size ok (.slice (some ⟨g,0,none⟩) n cap) zs) ∧ Aside0 (Below w0.heap.size w0 wr))
      case atStart => exact ⟨ii,ys,by omega,by omega,rfl,HL.out,⟨rfl⟩,HO,BW⟩
      case round =>
        clear HO BW
        obtain ⟨jj,zs,hjj,hg2,rfl,hzl,HI,HO,BW⟩:=hrel
        cases jj with
        | zero =>
          have HR9 : Aside0 (outA (ii + 1) xs = zs):=⟨by rw [HX.out,← HI.out];rfl⟩
          rw [← HR9.out] at HO
          go_wp2_with fail
          go_quiet (fail)
          go_wp2
          go_roundg (n - (ii + 1))
          case measure => omega
          case rel => exact ⟨ii + 1,by omega,by omega,by omega,by go_num,⟨Kd.R_drewN HO.out _⟩,⟨pw_below_drewN BW.out _⟩⟩
        | succ jj =>
          obtain ⟨a0,a1,af⟩:=at_ArrG HO.out (jj + 1) (by omega)
          obtain ⟨b0,b1,_⟩:=at_ArrG HO.out jj (by omega)
          have HS : Aside0 (∀ W,Kd.R kArr 91 W w0.heap.size ok (.slice (some ⟨g,0,none⟩) n cap) zs → Kd.R kArr 91 ((((W.setCell ⟨g,(jj + 1) * 2,none⟩ (.int .i64 (zs.getD jj (0,0)).1)).setCell ⟨g,(jj + 1) * 2 + 1,none⟩ (.int .i64 (zs.getD jj (0,0)).2)).setCell ⟨g,jj * 2,none⟩ (.int .i64 (zs.getD (jj + 1) (0,0)).1)).setCell ⟨g,jj * 2 + 1,none⟩ (.int .i64 (zs.getD (jj + 1) (0,0)).2)) w0.heap.size ok (.slice (some ⟨g,0,none⟩) n cap) (swA zs jj)):=⟨fun W hW => swArr hW jj (by omega)⟩
          have HU : Aside0 (inA (jj + 1) zs = if lessA (zs.getD (jj + 1) (0,0)) (zs.getD jj (0,0)) = true then inA jj (swA zs jj) else zs):=⟨rfl⟩
          have HSL : Aside0 ((swA zs jj).length = n):=⟨by rw [swA_len,hzl]⟩
          generalize swA zs jj = sz at HS HU HSL
          generalize zs.getD (jj + 1) (0,0) = p at a0 a1 HS HU
          generalize zs.getD jj (0,0) = q at b0 b1 HS HU
          obtain ⟨p1',p2'⟩:=p
          obtain ⟨q1',q2'⟩:=q
          simp only [] at a0 a1 b0 b1 HS
          have hcall:=fun W => x_cmpA p1' p2' q1' q2' W
          have e1 : lessA (p1',p2') (q1',q2') = decide (cmpA p1' p2' q1' q2' < 0):=rfl
          rw [e1] at HU
          generalize cmpA p1' p2' q1' q2' = cc at hcall HU
          clear e1
          have p2 : ((jj : Int) + 1 > 0) = True:=eq_true (by omega)
          have p3 : (0 < (jj : Int) + 1) = True:=eq_true (by omega)
          have p4 : (0 ≤ (jj : Int) + 1) = True:=eq_true (by omega)
          have p5 : ((jj : Int) + 1 < (n : Int)) = True:=eq_true (by omega)
          have p6 : ((jj : Int) < (n : Int)) = True:=eq_true (by omega)
          have p7 : (jj < n) = True:=eq_true (by omega)
          have p8 : (jj + 1 < n) = True:=eq_true (by omega)
          have w10 : wrap64 (jj : Int) = (jj : Int):=wrap_eq (by omega) (by omega)
          have w11 : IntKind.i64.wrap (jj : Int) = (jj : Int):=(i64_w _).trans w10
          have hgl : g < wr.heap.size:=Kd.R_lt HO.out g (by simp [Value.ownBlock])
          have hj1 : jj < n:=Nat.lt_of_lt_of_le (Nat.lt_of_lt_of_le (Nat.lt_succ_self jj) hjj) hii
          go_wp2_with fail
          refine start_ (n:=17) (S:=fun w' => w'.cell? ⟨g,(jj + 1) * 2,none⟩ = some (.int .i64 p1') ∧ w'.cell? ⟨g,(jj + 1) * 2 + 1,none⟩ = some (.int .i64 p2') ∧ w'.cell? ⟨g,jj * 2,none⟩ = some (.int .i64 q1') ∧ w'.cell? ⟨g,jj * 2 + 1,none⟩ = some (.int .i64 q2')) (ds:=[]) #[false,false,false,false,false,false,false,false,false,false,false,false,false,false,false,false,false] (by kernel_rfl) rfl rfl ⟨a0,a1,b0,b1⟩ (fun hHeld => ?_)
          refine with_tabW insR4.tab insR4.bits (fun HT_ HW_ => ?_)
          refine pure_ (i:=0) (N:=some 18) (v:=?_) (a':=?_) #[true,false,false,false,false,false,false,false,false,false,false,false,false,false,false,false,false] rfl rfl (any_of HT_.out (by kernel_rfl)) (fun _ _ _ h => h) (Or.inl ⟨by rfl,?_⟩) ?_ ?_
          rotate_left
          · intro w'
            go_simp
            with_reducible rfl
          rotate_left
          · simp only [Act.put,sx_,sy_,sz_,i64_w,i32_w]
            rfl
          refine pure_ (i:=1) (N:=some 19) (v:=?_) (a':=?_) #[true,true,false,false,false,false,false,false,false,false,false,false,false,false,false,false,false] rfl rfl (any_of HT_.out (by kernel_rfl)) (fun _ _ _ h => h) (Or.inl ⟨by rfl,?_⟩) ?_ ?_
          rotate_left
          · intro w'
            go_simp
            with_reducible rfl
          rotate_left
          · simp only [Act.put,sx_,sy_,sz_,i64_w,i32_w]
            rfl
          refine pure_ (i:=2) (N:=some 20) (v:=?_) (a':=?_) #[true,true,true,false,false,false,false,false,false,false,false,false,false,false,false,false,false] rfl rfl (any_of HT_.out (by kernel_rfl)) (fun _ _ _ h => h) (Or.inl ⟨by rfl,?_⟩) ?_ ?_
          rotate_left
          · intro w'
            go_simp
            with_reducible rfl
          rotate_left
          · simp only [Act.put,sx_,sy_,sz_,i64_w,i32_w]
            rfl
          refine pure_ (i:=3) (N:=some 21) (v:=?_) (a':=?_) #[true,true,true,true,false,false,false,false,false,false,false,false,false,false,false,false,false] rfl rfl (any_of HT_.out (by kernel_rfl)) (fun _ _ _ h => h) (Or.inl ⟨by rfl,?_⟩) ?_ ?_
          rotate_left
          · intro w'
            go_simp
            with_reducible rfl
          rotate_left
          · simp only [Act.put,sx_,sy_,sz_,i64_w,i32_w]
            rfl
          refine pure_ (i:=4) (N:=some 22) (v:=?_) (a':=?_) #[true,true,true,true,true,false,false,false,false,false,false,false,false,false,false,false,false] rfl rfl (any_of HT_.out (by kernel_rfl)) (fun _ _ _ h => h) (Or.inl ⟨by rfl,?_⟩) ?_ ?_
          rotate_left
          · intro w'
            go_simp
            with_reducible rfl
          rotate_left
          · simp only [Act.put,sx_,sy_,sz_,i64_w,i32_w]
            rfl
          refine pure_ (i:=5) (N:=some 23) (v:=?_) (a':=?_) #[true,true,true,true,true,true,false,false,false,false,false,false,false,false,false,false,false] rfl rfl (any_of HT_.out (by kernel_rfl)) (fun _ _ _ h => h) (Or.inl ⟨by rfl,?_⟩) ?_ ?_
          rotate_left
          · intro w'
            go_simp
            with_reducible rfl
          rotate_left
          · simp only [Act.put,sx_,sy_,sz_,i64_w,i32_w]
            rfl
          refine pure_ (i:=6) (N:=some 24) (v:=?_) (a':=?_) #[true,true,true,true,true,true,true,false,false,false,false,false,false,false,false,false,false] rfl rfl (any_of HT_.out (by kernel_rfl)) (fun _ _ _ h => h) (Or.inl ⟨by rfl,?_⟩) ?_ ?_
          rotate_left
          · intro w'
            go_simp
            with_reducible rfl
          rotate_left
          · simp only [Act.put,sx_,sy_,sz_,i64_w,i32_w]
            rfl
          refine pure_ (i:=7) (N:=some 25) (v:=?_) (a':=?_) #[true,true,true,true,true,true,true,true,false,false,false,false,false,false,false,false,false] rfl rfl (any_of HT_.out (by kernel_rfl)) (fun _ _ _ h => h) (Or.inl ⟨by rfl,?_⟩) ?_ ?_
          rotate_left
          · intro w'
            go_simp
            with_reducible rfl
          rotate_left
          · simp only [Act.put,sx_,sy_,sz_,i64_w,i32_w]
            rfl
          refine pure_ (i:=9) (N:=some 27) (v:=?_) (a':=?_) #[true,true,true,true,true,true,true,true,false,true,false,false,false,false,false,false,false] rfl rfl (any_of HT_.out (by kernel_rfl)) (fun _ _ _ h => h) (Or.inl ⟨by rfl,?_⟩) ?_ ?_
          rotate_left
          · intro w'
            go_simp
            with_reducible rfl
          rotate_left
          · simp only [Act.put,sx_,sy_,sz_,i64_w,i32_w]
            rfl
          refine pure_ (i:=10) (N:=some 28) (v:=?_) (a':=?_) #[true,true,true,true,true,true,true,true,false,true,true,false,false,false,false,false,false] rfl rfl (any_of HT_.out (by kernel_rfl)) (fun _ _ _ h => h) (Or.inl ⟨by rfl,?_⟩) ?_ ?_
          rotate_left
          · intro w'
            go_simp
            with_reducible rfl
          rotate_left
          · simp only [Act.put,sx_,sy_,sz_,i64_w,i32_w]
            rfl
          refine pure_ (i:=11) (N:=some 29) (v:=?_) (a':=?_) #[true,true,true,true,true,true,true,true,false,true,true,true,false,false,false,false,false] rfl rfl (any_of HT_.out (by kernel_rfl)) (fun _ _ _ h => h) (Or.inl ⟨by rfl,?_⟩) ?_ ?_
          rotate_left
          · intro w'
            go_simp
            with_reducible rfl
          rotate_left
          · simp only [Act.put,sx_,sy_,sz_,i64_w,i32_w]
            rfl
          refine pure_ (i:=12) (N:=some 30) (v:=?_) (a':=?_) #[true,true,true,true,true,true,true,true,false,true,true,true,true,false,false,false,false] rfl rfl (any_of HT_.out (by kernel_rfl)) (fun _ _ _ h => h) (Or.inl ⟨by rfl,?_⟩) ?_ ?_
          rotate_left
          · intro w'
            go_simp
            with_reducible rfl
          rotate_left
          · simp only [Act.put,sx_,sy_,sz_,i64_w,i32_w]
            rfl
          refine take_ (i:=8) (N:=some 26) (v:=?_) (a':=?_) #[true,true,true,true,true,true,true,true,true,true,true,true,true,false,false,false,false] rfl rfl (take_ofW HT_.out HW_.out (by kernel_rfl)) (fun _ _ _ h => h) (Or.inl ⟨by rfl,?_⟩) hHeld ?_ ?_
          rotate_left
          · rintro w' ⟨s0,s1,s2,s3⟩
            go_simp
            with_reducible rfl
          rotate_left
          · simp only [Act.put,sx_,sy_,sz_,i64_w,i32_w]
            rfl
          refine take_ (i:=13) (N:=some 31) (v:=?_) (a':=?_) #[true,true,true,true,true,true,true,true,true,true,true,true,true,true,false,false,false] rfl rfl (take_ofW HT_.out HW_.out (by kernel_rfl)) (fun _ _ _ h => h) (Or.inl ⟨by rfl,?_⟩) hHeld ?_ ?_
          rotate_left
          · rintro w' ⟨s0,s1,s2,s3⟩
            go_simp
            with_reducible rfl
          rotate_left
          · simp only [Act.put,sx_,sy_,sz_,i64_w,i32_w]
            rfl
          refine one_ (i:=14) (N:=some 32) #[true,true,true,true,true,true,true,true,true,true,true,true,true,true,true,false,false] rfl rfl (one_of HT_.out (by kernel_rfl)) (by decide) (fun K hK => ?_)
          refine goesV_ Try.func82 (by kernel_rfl) rfl #[.agg #[.int .i64 p1',.int .i64 p2'],.agg #[.int .i64 q1',.int .i64 q2']] (by rfl) rfl rfl (by rfl) (by (try simp only [List.map_toArray,List.map_cons,List.map_nil]);first | done | rfl) ?_
          refine (hcall _).mono ?_
          rintro e w5 ⟨rfl,hb5⟩
          refine ⟨_,rfl,?_⟩
          have c0:=(hb5.cell (p:=⟨g,(jj + 1) * 2,none⟩) hgl).trans a0
          have c1:=(hb5.cell (p:=⟨g,(jj + 1) * 2 + 1,none⟩) hgl).trans a1
          have c2:=(hb5.cell (p:=⟨g,jj * 2,none⟩) hgl).trans b0
          have c3:=(hb5.cell (p:=⟨g,jj * 2 + 1,none⟩) hgl).trans b1
          have HO5:=Aside0.mk (Kd.R_below (Kd.R_drew HO.out) hb5)
          have BW5:=Aside0.mk (below_drewt BW.out hb5)
          clear a0 a1 b0 b1 hcall HO BW hb5
          refine hK.out _ _ ⟨c0,c1,c2,c3⟩ (fun hHeld => ?_)
          clear hK K
          refine norm_ (a':=?_) ?_ ?_
          rotate_left
          · show Act.put _ (some 32) _ = _
            simp only [Act.put,sx_,sy_,sz_,i64_w,i32_w]
            rfl
          refine pure_ (i:=15) (N:=some 33) (v:=?_) (a':=?_) #[true,true,true,true,true,true,true,true,true,true,true,true,true,true,true,true,false] rfl rfl (any_of HT_.out (by kernel_rfl)) (fun _ _ _ h => h) (Or.inl ⟨by rfl,?_⟩) ?_ ?_
          rotate_left
          · intro w'
            go_simp
            with_reducible rfl
          rotate_left
          · simp only [Act.put,sx_,sy_,sz_,i64_w,i32_w]
            rfl
          refine pure_ (i:=16) (N:=some 34) (v:=?_) (a':=?_) #[true,true,true,true,true,true,true,true,true,true,true,true,true,true,true,true,true] rfl rfl (any_of HT_.out (by kernel_rfl)) (fun _ _ _ h => h) (Or.inl ⟨by rfl,?_⟩) ?_ ?_
          rotate_left
          · intro w'
            go_simp
            with_reducible rfl
          rotate_left
          · simp only [Act.put,sx_,sy_,sz_,i64_w,i32_w]
            rfl
          refine done_ (done_of HT_.out (by kernel_rfl)) ?_
          by_cases hc : cc < 0
          · have pc : (cc < 0) = True:=eq_true hc
            rw [decide_eq_true hc,if_pos rfl] at HU
            simp only [pc,decide_true]
            clear hc
            have af5:=(at_ArrG HO5.out jj hj1).2.2
            have f0:=af5 ((jj + 1) * 2)
            have f1:=af5 ((jj + 1) * 2 + 1)
            have f2:=af5 (jj * 2)
            have f3:=af5 (jj * 2 + 1)
            have HS5:=Aside0.mk (HS.out _ HO5.out)
            clear af5 HS
            go_wp2_with fail
            refine start_ (n:=18) (S:=fun w' => w'.cell? ⟨g,(jj + 1) * 2,none⟩ = some (.int .i64 p1') ∧ w'.cell? ⟨g,(jj + 1) * 2 + 1,none⟩ = some (.int .i64 p2') ∧ w'.cell? ⟨g,jj * 2,none⟩ = some (.int .i64 q1') ∧ w'.cell? ⟨g,jj * 2 + 1,none⟩ = some (.int .i64 q2')) (ds:=[15,17]) #[false,false,false,false,false,false,false,false,false,false,false,false,false,false,false,false,false,false] (by kernel_rfl) rfl rfl ⟨c0,c1,c2,c3⟩ (fun hHeld => ?_)
            refine with_tabW insR6.tab insR6.bits (fun HT_ HW_ => ?_)
            refine pure_ (i:=0) (N:=some 37) (v:=?_) (a':=?_) #[true,false,false,false,false,false,false,false,false,false,false,false,false,false,false,false,false,false] rfl rfl (any_of HT_.out (by kernel_rfl)) (fun _ _ _ h => h) (Or.inl ⟨by rfl,?_⟩) ?_ ?_
            rotate_left
            · intro w'
              go_simp
              with_reducible rfl
            rotate_left
            · simp only [Act.put,sx_,sy_,sz_,i64_w,i32_w]
              rfl
            refine pure_ (i:=1) (N:=some 38) (v:=?_) (a':=?_) #[true,true,false,false,false,false,false,false,false,false,false,false,false,false,false,false,false,false] rfl rfl (any_of HT_.out (by kernel_rfl)) (fun _ _ _ h => h) (Or.inl ⟨by rfl,?_⟩) ?_ ?_
            rotate_left
            · intro w'
              go_simp
              with_reducible rfl
            rotate_left
            · simp only [Act.put,sx_,sy_,sz_,i64_w,i32_w]
              rfl
            refine pure_ (i:=2) (N:=some 39) (v:=?_) (a':=?_) #[true,true,true,false,false,false,false,false,false,false,false,false,false,false,false,false,false,false] rfl rfl (any_of HT_.out (by kernel_rfl)) (fun _ _ _ h => h) (Or.inl ⟨by rfl,?_⟩) ?_ ?_
            rotate_left
            · intro w'
              go_simp
              with_reducible rfl
            rotate_left
            · simp only [Act.put,sx_,sy_,sz_,i64_w,i32_w]
              rfl
            refine pure_ (i:=3) (N:=some 40) (v:=?_) (a':=?_) #[true,true,true,true,false,false,false,false,false,false,false,false,false,false,false,false,false,false] rfl rfl (any_of HT_.out (by kernel_rfl)) (fun _ _ _ h => h) (Or.inl ⟨by rfl,?_⟩) ?_ ?_
            rotate_left
            · intro w'
              go_simp
              with_reducible rfl
            rotate_left
            · simp only [Act.put,sx_,sy_,sz_,i64_w,i32_w]
              rfl
            refine pure_ (i:=4) (N:=some 41) (v:=?_) (a':=?_) #[true,true,true,true,true,false,false,false,false,false,false,false,false,false,false,false,false,false] rfl rfl (any_of HT_.out (by kernel_rfl)) (fun _ _ _ h => h) (Or.inl ⟨by rfl,?_⟩) ?_ ?_
            rotate_left
            · intro w'
              go_simp
              with_reducible rfl
            rotate_left
            · simp only [Act.put,sx_,sy_,sz_,i64_w,i32_w]
              rfl
            refine pure_ (i:=5) (N:=some 42) (v:=?_) (a':=?_) #[true,true,true,true,true,true,false,false,false,false,false,false,false,false,false,false,false,false] rfl rfl (any_of HT_.out (by kernel_rfl)) (fun _ _ _ h => h) (Or.inl ⟨by rfl,?_⟩) ?_ ?_
            rotate_left
            · intro w'
              go_simp
              with_reducible rfl
            rotate_left
            · simp only [Act.put,sx_,sy_,sz_,i64_w,i32_w]
              rfl
            refine pure_ (i:=6) (N:=some 43) (v:=?_) (a':=?_) #[true,true,true,true,true,true,true,false,false,false,false,false,false,false,false,false,false,false] rfl rfl (any_of HT_.out (by kernel_rfl)) (fun _ _ _ h => h) (Or.inl ⟨by rfl,?_⟩) ?_ ?_
            rotate_left
            · intro w'
              go_simp
              with_reducible rfl
            rotate_left
            · simp only [Act.put,sx_,sy_,sz_,i64_w,i32_w]
              rfl
            refine pure_ (i:=7) (N:=some 44) (v:=?_) (a':=?_) #[true,true,true,true,true,true,true,true,false,false,false,false,false,false,false,false,false,false] rfl rfl (any_of HT_.out (by kernel_rfl)) (fun _ _ _ h => h) (Or.inl ⟨by rfl,?_⟩) ?_ ?_
            rotate_left
            · intro w'
              go_simp
              with_reducible rfl
            rotate_left
            · simp only [Act.put,sx_,sy_,sz_,i64_w,i32_w]
              rfl
            refine pure_ (i:=8) (N:=some 45) (v:=?_) (a':=?_) #[true,true,true,true,true,true,true,true,true,false,false,false,false,false,false,false,false,false] rfl rfl (any_of HT_.out (by kernel_rfl)) (fun _ _ _ h => h) (Or.inl ⟨by rfl,?_⟩) ?_ ?_
            rotate_left
            · intro w'
              go_simp
              with_reducible rfl
            rotate_left
            · simp only [Act.put,sx_,sy_,sz_,i64_w,i32_w]
              rfl
            refine pure_ (i:=10) (N:=some 47) (v:=?_) (a':=?_) #[true,true,true,true,true,true,true,true,true,false,true,false,false,false,false,false,false,false] rfl rfl (any_of HT_.out (by kernel_rfl)) (fun _ _ _ h => h) (Or.inl ⟨by rfl,?_⟩) ?_ ?_
            rotate_left
            · intro w'
              go_simp
              with_reducible rfl
            rotate_left
            · simp only [Act.put,sx_,sy_,sz_,i64_w,i32_w]
              rfl
            refine pure_ (i:=11) (N:=some 48) (v:=?_) (a':=?_) #[true,true,true,true,true,true,true,true,true,false,true,true,false,false,false,false,false,false] rfl rfl (any_of HT_.out (by kernel_rfl)) (fun _ _ _ h => h) (Or.inl ⟨by rfl,?_⟩) ?_ ?_
            rotate_left
            · intro w'
              go_simp
              with_reducible rfl
            rotate_left
            · simp only [Act.put,sx_,sy_,sz_,i64_w,i32_w]
              rfl
            refine pure_ (i:=12) (N:=some 49) (v:=?_) (a':=?_) #[true,true,true,true,true,true,true,true,true,false,true,true,true,false,false,false,false,false] rfl rfl (any_of HT_.out (by kernel_rfl)) (fun _ _ _ h => h) (Or.inl ⟨by rfl,?_⟩) ?_ ?_
            rotate_left
            · intro w'
              go_simp
              with_reducible rfl
            rotate_left
            · simp only [Act.put,sx_,sy_,sz_,i64_w,i32_w]
              rfl
            refine take_ (i:=9) (N:=some 46) (v:=?_) (a':=?_) #[true,true,true,true,true,true,true,true,true,true,true,true,true,false,false,false,false,false] rfl rfl (take_ofW HT_.out HW_.out (by kernel_rfl)) (fun _ _ _ h => h) (Or.inl ⟨by rfl,?_⟩) hHeld ?_ ?_
            rotate_left
            · rintro w' ⟨s0,s1,s2,s3⟩
              go_simp
              with_reducible rfl
            rotate_left
            · simp only [Act.put,sx_,sy_,sz_,i64_w,i32_w]
              rfl
            refine take_ (i:=13) (N:=some 50) (v:=?_) (a':=?_) #[true,true,true,true,true,true,true,true,true,true,true,true,true,true,false,false,false,false] rfl rfl (take_ofW HT_.out HW_.out (by kernel_rfl)) (fun _ _ _ h => h) (Or.inl ⟨by rfl,?_⟩) hHeld ?_ ?_
            rotate_left
            · rintro w' ⟨s0,s1,s2,s3⟩
              go_simp
              with_reducible rfl
            rotate_left
            · simp only [Act.put,sx_,sy_,sz_,i64_w,i32_w]
              rfl
            refine pure_ (i:=14) (N:=some 51) (v:=?_) (a':=?_) #[true,true,true,true,true,true,true,true,true,true,true,true,true,true,true,false,false,false] rfl rfl (any_of HT_.out (by kernel_rfl)) (fun _ _ _ h => h) (Or.inl ⟨by rfl,?_⟩) ?_ ?_
            rotate_left
            · intro w'
              go_simp
              with_reducible rfl
            rotate_left
            · simp only [Act.put,sx_,sy_,sz_,i64_w,i32_w]
              rfl
            refine last_ (i:=15) (N:=none) #[true,true,true,true,true,true,true,true,true,true,true,true,true,true,true,true,false,false] rfl rfl (one_of HT_.out (by kernel_rfl)) (by decide) (fun K hK => ?_)
            refine skip_ (w1:=?_) (by rfl) rfl ?_ ?_
            rotate_left
            · go_simp
              rfl
            refine hK.out _ _ ?_
            clear hK K
            refine pure_ (i:=16) (N:=some 52) (v:=?_) (a':=?_) #[true,true,true,true,true,true,true,true,true,true,true,true,true,true,true,true,true,false] rfl rfl (any_of HT_.out (by kernel_rfl)) (fun _ _ _ h => h) (Or.inl ⟨by rfl,?_⟩) ?_ ?_
            rotate_left
            · intro w'
              go_simp
              with_reducible rfl
            rotate_left
            · simp only [Act.put,sx_,sy_,sz_,i64_w,i32_w]
              rfl
            refine last_ (i:=17) (N:=none) #[true,true,true,true,true,true,true,true,true,true,true,true,true,true,true,true,true,true] rfl rfl (one_of HT_.out (by kernel_rfl)) (by decide) (fun K hK => ?_)
            refine skip_ (w1:=?_) (by rfl) rfl ?_ ?_
            rotate_left
            · go_simp
              rfl
            refine hK.out _ _ ?_
            clear hK K
            refine done_ (done_of HT_.out (by kernel_rfl)) ?_
            have BW6:=Aside0.mk ((((BW5.out.setCell hg0 (p:=⟨g,(jj + 1) * 2,none⟩) (.int .i64 q1')).setCell hg0 (p:=⟨g,(jj + 1) * 2 + 1,none⟩) (.int .i64 q2')).setCell hg0 (p:=⟨g,jj * 2,none⟩) (.int .i64 p1')).setCell hg0 (p:=⟨g,jj * 2 + 1,none⟩) (.int .i64 p2'))
            generalize (((w5.setCell ⟨g,(jj + 1) * 2,none⟩ (.int .i64 q1')).setCell ⟨g,(jj + 1) * 2 + 1,none⟩ (.int .i64 q2')).setCell ⟨g,jj * 2,none⟩ (.int .i64 p1')).setCell ⟨g,jj * 2 + 1,none⟩ (.int .i64 p2') = W6 at HS5 BW6 ⊢
            clear c0 c1 c2 c3 f0 f1 f2 f3 HO5 BW5 pc hgl p2 p3 p4 p5 p6 p7 p8
            go_wp2
            clear w10 w11
            go_roundg jj
            case measure => omega
            case rel => exact ⟨jj,sz,by omega,by omega,by go_num,HSL.out,⟨by rw [← HU.out,HI.out]⟩,⟨Kd.R_drew HS5.out⟩,⟨below_drew1 BW6.out⟩⟩
          · have pc : (cc < 0) = False:=eq_false hc
            rw [decide_eq_false hc,if_neg (by decide)] at HU
            simp only [pc,decide_false]
            clear hc c0 c1 c2 c3
            have HR9 : Aside0 (outA (ii + 1) xs = zs):=⟨by rw [HX.out,← HI.out,HU.out]⟩
            rw [← HR9.out] at HO5
            go_wp2
            clear w10 w11
            go_roundg (n - (ii + 1))
            case measure => omega
            case rel => exact ⟨ii + 1,by omega,by omega,by omega,by go_num,HO5,BW5⟩
    · have e : ii = n:=by omega
      subst e
      have e2 : ii = xs.length:=HN.out
      go_wp2
      first | go_end0 | ((try simp only [Exit.inBlock,Exit.then]);refine bodyPost_ret (results_none rfl _ _ _) rfl ?_)
      exact ⟨rfl,HO.out,BW.out⟩

end Go.Proofs.Ytdpnloibbimblaa.PAll
