/- Proved here: contracts of functions of the given program, or lemmas on them, for the laws of this seat. Written by xprint.py, a program of this session, on the ground of the kit's print; parts by hand: wip/x/ext. -/
import Derived.Test.YtdamdcdjodmemaaPAllx0
namespace Go.Proofs.Ytdamdcdjodmemaa.PAll
open Go.RowKit Go.Proofs.YtdamdcdjodmemaaW.PrintWords Go.Proofs.YtdamdcdjodmemaaW.PrintLast Go.Proofs.YtdamdcdjodmemaaW.PrintMore
attribute [local go_sem] max2_int min2_int max_two min_two max_three min_three max_four min_four   -- for this text's walks alone
set_option linter.unusedVariables false
set_option linter.unusedSimpArgs false

/-! ### impl_within: function 48 -/
def impl_within.f (a0 : Int) (a1 : Int) (a2 : Int) : Option (Bool):=if a1 ≤ a0 then (some (decide (a0 ≤ a2))) else (some false)
set_option maxHeartbeats 8000000 in
set_option maxRecDepth 100000 in
theorem impl_within.calls (a0 : Int) (a1 : Int) (a2 : Int) (r : Bool) (w : World) (h : impl_within.f a0 a1 a2 = some r) :
  Calls Try.prog 48 #[.int .i64 a0,.int .i64 a1,.int .i64 a2] w fun e w' => e = .returned (.bool r) ∧ Drawn0 w w':=by
 have H : (if a1 ≤ a0 then (some (decide (a0 ≤ a2))) else (some false)) = some r:=h
 clear h
 by_cases c4 : a1 ≤ a0
 ·rw [if_pos c4] at H
  have c4b0 : decide (a1 ≤ a0) = true:=decide_eq_true c4
  clear c4
  obtain rfl:=Option.some.inj H
  go_enter Try.func48,Try.ntmps48
  go_wp2
  go_ret
  exact ⟨by first|rfl|(simp;done)|(simp [*];done),by repeat (first|exact Drawn0.refl _|apply Drawn0.step)⟩
 ·rw [if_neg c4] at H
  have c4b0 : decide (a1 ≤ a0) = false:=decide_eq_false c4
  clear c4
  obtain rfl:=Option.some.inj H
  go_enter Try.func48,Try.ntmps48
  go_wp2
  go_ret
  exact ⟨by first|rfl|(simp;done)|(simp [*];done),by repeat (first|exact Drawn0.refl _|apply Drawn0.step)⟩

-- LIB preds
/-- What is asked of a function value that answers a bool: at every x, in every world in which all that lay in w lies as it lay, it answers p x and turns nothing that lies there. -/
def PredB {α : Type} (P : Program) (g : Nat) (lb : Array Value) (enc : α → Value) (p : α → Bool) (w : World) : Prop :=
  ∀ (W : World) (x : α),Below w.heap.size w W → Calls P g (#[enc x] ++ lb) W fun e w' => e = .returned (.bool (p x)) ∧ Below W.heap.size W w'
theorem PredB.later {α : Type} {P : Program} {g : Nat} {lb : Array Value} {enc : α → Value} {p : α → Bool} {w W : World} (h : PredB P g lb enc p w) (hb : Below w.heap.size w W) : PredB P g lb enc p W :=
  fun W' x hb' => h W' x (hb.trans (hb'.mono hb.size))
/-- The place of the first x of which p holds, from k on; -1. -/
def idxL {α : Type} (p : α → Bool) : List α → Nat → Int
  | [],_ => -1
  | x :: xs,k => if p x then (k : Int) else idxL p xs (k + 1)
theorem idxL_iff {α : Type} (p : α → Bool) (l : List α) (k : Nat) : 0 ≤ idxL p l k ↔ l.any p = true:=by
  induction l generalizing k with
  | nil => exact ⟨fun h => absurd h (by simp [idxL]),fun h => absurd h (by simp)⟩
  | cons x xs ih =>
    by_cases hp : p x = true
    · have e : idxL p (x :: xs) k = (k : Int):=if_pos hp
      rw [e]
      exact ⟨fun _ => by simp [hp],fun _ => by omega⟩
    · have e : idxL p (x :: xs) k = idxL p xs (k + 1):=if_neg hp
      rw [e,ih]
      simp [Bool.eq_false_iff.mpr hp]
theorem idxL_any {α : Type} (p : α → Bool) (l : List α) (k : Nat) : decide (0 ≤ idxL p l k) = l.any p:=by
  have h:=idxL_iff p l k
  cases ha : l.any p with
  | true => exact decide_eq_true (h.2 ha)
  | false => exact decide_eq_false (fun h0 => by rw [h.1 h0] at ha;cases ha)
theorem idxL_drop {α : Type} [Inhabited α] (p : α → Bool) (l : List α) (k : Nat) (h : k < l.length) : idxL p (l.drop k) k = if p (l.getD k default) then (k : Int) else idxL p (l.drop (k + 1)) (k + 1):=by
  rw [List.drop_eq_getElem_cons h,idxL]
  simp [List.getD_eq_getElem?_getD,h]
theorem below_step {w W W' : World} (h : Below w.heap.size w W) (h' : Below W.heap.size W W') : Below w.heap.size w W':=h.trans (h'.mono h.size)
theorem rd_getD (l : List Int) (k : Nat) : rd l (k : Int) = l.getD k default:=by simp [rd]

-- LIB allcab
theorem rdCab_get (l : List S51) (i : Nat) (h : i < l.length) : rd_T51 l (i : Int) = l[i]:=by simp [rd_T51,List.getD_eq_getElem?_getD,h]
theorem any_not_allc {α : Type} (p : α → Bool) (l : List α) : (!l.any fun x => !p x) = l.all p:=by
  induction l with
  | nil => rfl
  | cons x xs ih => simp only [List.any_cons,List.all_cons,Bool.not_or,Bool.not_not,ih]
def encCab (x : S51) : Value:=.agg #[.int .i64 x.f0,.int .i64 x.f1,.int .i64 x.f2]
set_option maxHeartbeats 4000000 in
set_option maxRecDepth 100000 in
theorem x_IndexFunc_cab (p : S51 → Bool) (g : Nat) (lb : Array Value) (eg : ∀ args w, (callFunc g args).run Try.prog w = .ok (.enter g args) w) (A0 : Option Addr) (c0 : Nat) (l0 : List S51) (w : World)
    (hp : PredB Try.prog g lb encCab p w) (hr0 : Kd.C k51 w A0 l0.length l0) :
    Calls Try.prog 104 #[.slice A0 l0.length c0,.func (.func g) #[] lb] w fun e w' => e = .returned (.int .i64 (idxL p l0 0)) ∧ Below w.heap.size w w':=by
  have hlen:=Kd.C_max hr0
  have HR:=Aside0.mk hr0
  have HP:=Aside0.mk hp
  clear hr0 hp
  have hu:=Try.underlying51
  go_enter Try.func104,Try.ntmps104
  go_wp2
  go_loopg [5,8] l0.length (fun gg _ s8 wr => ∃ kk : Nat,kk ≤ l0.length ∧ l0.length - kk ≤ gg ∧ s8 = .int .i64 kk ∧ Aside0 (Below w.heap.size w wr) ∧ Aside0 (idxL p (l0.drop kk) kk = idxL p l0 0))
  case atStart => exact ⟨0,Nat.zero_le _,by omega,rfl,⟨Below.refl _ w⟩,⟨rfl⟩⟩
  case round =>
    obtain ⟨kk,hkk,hg,rfl,BW,HI⟩:=hrel
    by_cases hlt : kk < l0.length
    · obtain ⟨ad,e,hx0,hx1,hx2⟩:=at_T51 (Kd.C_below HR.out BW.out) (kk : Int) (by omega) (by omega)
      cases e
      rw [Int.toNat_natCast] at hx0 hx1 hx2
      obtain ⟨y,hy⟩ : ∃ y,y = rd_T51 l0 (kk : Int):=⟨_,rfl⟩
      rw [← hy] at hx0 hx1 hx2
      have hcall:=HP.out wr y BW.out
      unfold encCab at hcall
      have HD : Aside0 (idxL p l0 0 = if p y then (kk : Int) else idxL p (l0.drop (kk + 1)) (kk + 1)):=⟨by rw [← HI.out,List.drop_eq_getElem_cons hlt,idxL,hy,rdCab_get l0 kk hlt]⟩
      clear hy
      cases hq : p y with
      | true =>
        rw [hq] at hcall
        have HQ:=Aside0.mk hq
        clear hq
        go_wp2_with (go_at_fn g;refine hcall.mono ?_;rintro e w' ⟨rfl,hb'⟩)
        go_ret
        exact ⟨by rw [HD.out,HQ.out];rfl,below_step BW.out hb'⟩
      | false =>
        rw [hq] at hcall
        have HQ:=Aside0.mk hq
        clear hq
        go_wp2_with (go_at_fn g;refine hcall.mono ?_;rintro e w' ⟨rfl,hb'⟩)
        go_roundg (l0.length - (kk + 1))
        case measure => omega
        case rel => exact ⟨kk + 1,by omega,by omega,by go_num,⟨below_step BW.out hb'⟩,⟨by rw [HD.out,HQ.out];rfl⟩⟩
    · have e : kk = l0.length:=by omega
      subst e
      go_wp2
      go_ret
      exact ⟨by rw [← HI.out,List.drop_length];rfl,BW.out⟩
set_option maxHeartbeats 4000000 in
set_option maxRecDepth 100000 in
theorem x_ContainsFunc_cab (p : S51 → Bool) (g : Nat) (lb : Array Value) (eg : ∀ args w, (callFunc g args).run Try.prog w = .ok (.enter g args) w) (A0 : Option Addr) (c0 : Nat) (l0 : List S51) (w : World)
    (hp : PredB Try.prog g lb encCab p w) (hr0 : Kd.C k51 w A0 l0.length l0) :
    Calls Try.prog 89 #[.slice A0 l0.length c0,.func (.func g) #[] lb] w fun e w' => e = .returned (.bool (l0.any p)) ∧ Below w.heap.size w w':=by
  have hcall:=x_IndexFunc_cab p g lb eg A0 c0 l0 w hp hr0
  have HA:=Aside0.mk (idxL_any p l0 0)
  obtain ⟨z,hz⟩ : ∃ z,z = idxL p l0 0:=⟨_,rfl⟩
  rw [← hz] at hcall HA
  clear hp hr0 hz
  go_enter Try.func89,Try.ntmps89
  go_wp2_with (go_at_call 104;refine hcall.mono ?_;rintro e w' ⟨rfl,hb'⟩)
  go_ret
  exact ⟨by rw [← HA.out];rfl,hb'⟩

set_option maxHeartbeats 4000000 in
set_option maxRecDepth 100000 in
theorem x_all_cab_1 {p : S51 → Bool} {g : Nat} {lb : Array Value} (eg : ∀ args w, (callFunc g args).run Try.prog w = .ok (.enter g args) w) {b : Nat} {w : World}
    (hp : PredB Try.prog g lb encCab p w) (hb : b < w.heap.size) (hc : w.cell? ⟨b,0,none⟩ = some (.func (.func g) #[] lb)) :
    PredB Try.prog 90 #[.pointer (some ⟨b,0,none⟩)] encCab (fun x => !p x) w:=by
  intro W x hB
  have hu:=Try.underlying51
  have hB2 : Below W.heap.size W (W.alloc (.cells #[.int .i64 x.f0,.int .i64 x.f1,.int .i64 x.f2] 51)):=(Below.refl _ W).alloc (Nat.le_refl _) _
  have hc':=(hB.cell (p:=⟨b,0,none⟩) hb).trans hc
  have hbW : b < W.heap.size:=Nat.lt_of_lt_of_le hb hB.size
  have hcall:=hp _ x (below_step hB hB2)
  have HB2:=Aside0.mk hB2
  clear hp hc hB hb hB2
  unfold encCab at hcall ⊢
  go_enter Try.func90,Try.ntmps90
  go_wp2_with (go_at_fn g;refine hcall.mono ?_;rintro e w' ⟨rfl,hb'⟩)
  go_ret
  exact ⟨rfl,below_step HB2.out hb'⟩
set_option maxHeartbeats 4000000 in
set_option maxRecDepth 100000 in
theorem x_all_cab (p : S51 → Bool) (g : Nat) (lb : Array Value) (eg : ∀ args w, (callFunc g args).run Try.prog w = .ok (.enter g args) w) (A0 : Option Addr) (c0 : Nat) (l0 : List S51) (w : World)
    (hp : PredB Try.prog g lb encCab p w) (hr0 : Kd.C k51 w A0 l0.length l0) :
    Calls Try.prog 72 #[.slice A0 l0.length c0,.func (.func g) #[] lb] w fun e w' => e = .returned (.bool (l0.all p)) ∧ Below w.heap.size w w':=by
  have hmf : ∀ (fn : Fn) (first cap : Array Value) (w : World),(Instr.makeFunc fn first cap).run Try.prog w = .ok (.func fn first cap) w:=fun _ _ _ _ => rfl
  have hb0 : Below w.heap.size w (w.alloc (.cells #[.func (.func g) #[] lb] 81)):=(Below.refl _ w).alloc (Nat.le_refl _) _
  have hcall:=x_ContainsFunc_cab (fun x => !p x) 90 #[.pointer (some ⟨w.heap.size,0,none⟩)] (enters_of Try.func90 (by kernel_rfl) rfl) A0 c0 l0 _ (x_all_cab_1 eg (hp.later hb0) (by simp) (by simp)) (Kd.C_below hr0 hb0)
  have HB0:=Aside0.mk hb0
  clear hp hr0 hb0
  go_enter Try.func72,Try.ntmps72
  go_wp2_with (go_at_call 89;refine hcall.mono ?_;rintro e w' ⟨rfl,hb'⟩)
  go_ret
  exact ⟨by rw [any_not_allc];rfl,below_step HB0.out hb'⟩

-- LIB cabs
/-- A cable between two of so many bridges. -/
def cabB (n : Int) (x : S51) : Bool:=(decide (0 ≤ x.f0) && decide (x.f0 ≤ wrap64 (n - 1))) && ((decide (0 ≤ x.f1) && decide (x.f1 ≤ wrap64 (n - 1))) && ((x.f0 != x.f1) && (decide (1 ≤ x.f2) && decide (x.f2 ≤ 99))))
def cabsB (n : Int) (l : List S51) : Bool:=(decide (1 ≤ n) && decide (n ≤ 8)) && (decide (l.length ≤ 20) && l.all (cabB n))
/-- What is told of valid cables. -/
theorem cabsB_facts {n : Int} {l : List S51} (h : cabsB n l = true) : 1 ≤ n ∧ n ≤ 8 ∧ l.length ≤ 20 ∧ ∀ x ∈ l,0 ≤ x.f0 ∧ x.f0 < n ∧ 0 ≤ x.f1 ∧ x.f1 < n ∧ x.f0 ≠ x.f1 ∧ 1 ≤ x.f2 ∧ x.f2 ≤ 99:=by
  unfold cabsB at h
  simp only [Bool.and_eq_true,decide_eq_true_eq,List.all_eq_true] at h
  obtain ⟨⟨h1,h2⟩,h3,h4⟩:=h
  refine ⟨h1,h2,h3,fun x hx => ?_⟩
  have:=h4 x hx
  unfold cabB at this
  have e : wrap64 (n - 1) = n - 1:=by unfold wrap64;omega
  rw [e] at this
  simp only [Bool.and_eq_true,decide_eq_true_eq,bne_iff_ne] at this
  omega

-- LIB pbase
theorem wrap_eq {x : Int} (h1 : -9223372036854775808 ≤ x) (h2 : x ≤ 9223372036854775807) : wrap64 x = x:=by unfold wrap64;omega
theorem wrap_succ {i n : Nat} (h : i < n) (hn : n ≤ 9223372036854775807) : wrap64 ((i : Int) + 1) = ((i + 1 : Nat) : Int):=by rw [wrap_eq (by omega) (by omega)];rfl
theorem rd_get (l : List Int) (i : Nat) (h : i < l.length) : rd l (i : Int) = l[i]:=by simp [rd,List.getD_eq_getElem?_getD,h]

-- LIB within
theorem win_is (n a b : Int) : impl_within.f n a b = some (decide (a ≤ n) && decide (n ≤ b)):=by
  unfold impl_within.f
  by_cases h : a ≤ n <;> simp [h]
theorem x_win (n a b : Int) (W : World) : Calls Try.prog 48 #[.int .i64 n,.int .i64 a,.int .i64 b] W fun e w' => e = .returned (.bool (decide (a ≤ n) && decide (n ≤ b))) ∧ Below W.heap.size W w' :=
  (impl_within.calls n a b _ W (win_is n a b)).mono fun e w' ⟨he,hd⟩ => ⟨he,hd.below⟩

/-! ### impl_CablesValid: function 45 (by hand) -/
set_option maxHeartbeats 4000000 in
set_option maxRecDepth 100000 in
theorem x_CablesValid_1 {n : Int} {b : Nat} {w : World} (hb : b < w.heap.size) (hc : w.cell? ⟨b,0,none⟩ = some (.int .i64 n)) :
  PredB Try.prog 73 #[.pointer (some ⟨b,0,none⟩)] encCab (cabB n) w:=by
 intro W x hB
 have hu:=Try.underlying51
 have HC:=mk_ (fun W' (h : Below W.heap.size W W') => (st_ hB h).cell (p:=⟨b,0,none⟩) hb |>.trans hc)
 have hB0 : Below W.heap.size W (W.alloc (.cells #[.int .i64 x.f0,.int .i64 x.f1,.int .i64 x.f2] 51)):=(Below.refl _ W).alloc (Nat.le_refl _) _
 have hN0:=blk_new W (.cells #[.int .i64 x.f0,.int .i64 x.f1,.int .i64 x.f2] 51)
 have h0:=HC.out _ hB0
 have hbW : b < W.heap.size:=Nat.lt_of_lt_of_le hb hB.size
 have HB0:=mk_ hB0
 have HN0:=mk_ hN0
 have hc':=(hB.cell (p:=⟨b,0,none⟩) hb).trans hc
 clear hc hB hb hB0 hN0
 unfold encCab
 have HZ : Aside0 (cabB n x = ((decide (0 ≤ x.f0) && decide (x.f0 ≤ wrap64 (n - 1))) && ((decide (0 ≤ x.f1) && decide (x.f1 ≤ wrap64 (n - 1))) && ((x.f0 != x.f1) && (decide (1 ≤ x.f2) && decide (x.f2 ≤ 99)))))):=⟨rfl⟩
 generalize cabB n x = z at HZ ⊢
 generalize x.f0 = a1 at *
 generalize x.f1 = a2 at *
 generalize x.f2 = a3 at *
 clear x
 obtain ⟨m,hm⟩ : ∃ m,m = wrap64 (n - 1):=⟨_,rfl⟩
 rw [← hm] at HZ
 have y1 : IntKind.i64.wrap (n - 1) = m:=(i64_w _).trans hm.symm
 have hw1:=fun W => x_win a1 0 m W
 have hw2:=fun W => x_win a2 0 m W
 have hw3:=fun W => x_win a3 1 99 W
 clear hm
 generalize (decide (0 ≤ a1) && decide (a1 ≤ m)) = z1 at HZ hw1
 generalize (decide (0 ≤ a2) && decide (a2 ≤ m)) = z2 at HZ hw2
 generalize (decide (1 ≤ a3) && decide (a3 ≤ 99)) = z3 at HZ hw3
 cases z1 with
 | false =>
  have HZ2 : Aside0 (z = false):=⟨by rw [HZ.out];rfl⟩
  go_enter Try.func73,Try.ntmps73
  go_wp2_with fail
  refine (hw1 _).mono ?_
  rintro e w1 ⟨rfl,hb1⟩
  go_wp2_with fail
  go_ret
  exact ⟨by rw [HZ2.out];rfl,st_ HB0.out hb1⟩
 | true =>
 cases z2 with
 | false =>
  have HZ2 : Aside0 (z = false):=⟨by rw [HZ.out];rfl⟩
  go_enter Try.func73,Try.ntmps73
  go_wp2_with fail
  refine (hw1 _).mono ?_
  rintro e w1 ⟨rfl,hb1⟩
  have q1 : w1.cell? ⟨b,0,none⟩ = some (.int .i64 n):=HC.out w1 (st_ HB0.out hb1)
  have c1 : w1.cell? ⟨W.heap.size,1,none⟩ = some (.int .i64 a2):=(bc_ (blk_below HN0.out hb1) 1).trans rfl
  have HB1:=mk_ (st_ HB0.out hb1)
  clear hb1
  go_wp2_with fail
  refine (hw2 _).mono ?_
  rintro e w2 ⟨rfl,hb2⟩
  go_wp2_with fail
  go_ret
  exact ⟨by rw [HZ2.out];rfl,st_ HB1.out hb2⟩
 | true =>
 by_cases hne : a1 = a2
 ·have HZ2 : Aside0 (z = false):=⟨by rw [HZ.out,bne_eq_false_iff_eq.mpr hne];rfl⟩
  have hd : (a1 != a2) = false:=bne_eq_false_iff_eq.mpr hne
  clear hne
  go_enter Try.func73,Try.ntmps73
  go_wp2_with fail
  refine (hw1 _).mono ?_
  rintro e w1 ⟨rfl,hb1⟩
  have q1 : w1.cell? ⟨b,0,none⟩ = some (.int .i64 n):=HC.out w1 (st_ HB0.out hb1)
  have c1 : w1.cell? ⟨W.heap.size,1,none⟩ = some (.int .i64 a2):=(bc_ (blk_below HN0.out hb1) 1).trans rfl
  have HB1:=mk_ (st_ HB0.out hb1)
  have HN1:=mk_ (blk_below HN0.out hb1)
  clear hb1
  go_wp2_with fail
  refine (hw2 _).mono ?_
  rintro e w2 ⟨rfl,hb2⟩
  have d0 : w2.cell? ⟨W.heap.size,0,none⟩ = some (.int .i64 a1):=(bc_ (blk_below HN1.out hb2) 0).trans rfl
  have d1 : w2.cell? ⟨W.heap.size,1,none⟩ = some (.int .i64 a2):=(bc_ (blk_below HN1.out hb2) 1).trans rfl
  have HB2:=mk_ (st_ HB1.out hb2)
  clear hb2 q1 c1
  go_wp2_with fail
  go_ret
  exact ⟨by rw [HZ2.out];rfl,HB2.out⟩
 ·have HZ2 : Aside0 (z = z3):=⟨by rw [HZ.out,bne_iff_ne.mpr hne];rfl⟩
  have hd : (a1 != a2) = true:=bne_iff_ne.mpr hne
  clear hne
  go_enter Try.func73,Try.ntmps73
  go_wp2_with fail
  refine (hw1 _).mono ?_
  rintro e w1 ⟨rfl,hb1⟩
  have q1 : w1.cell? ⟨b,0,none⟩ = some (.int .i64 n):=HC.out w1 (st_ HB0.out hb1)
  have c1 : w1.cell? ⟨W.heap.size,1,none⟩ = some (.int .i64 a2):=(bc_ (blk_below HN0.out hb1) 1).trans rfl
  have HB1:=mk_ (st_ HB0.out hb1)
  have HN1:=mk_ (blk_below HN0.out hb1)
  clear hb1
  go_wp2_with fail
  refine (hw2 _).mono ?_
  rintro e w2 ⟨rfl,hb2⟩
  have d0 : w2.cell? ⟨W.heap.size,0,none⟩ = some (.int .i64 a1):=(bc_ (blk_below HN1.out hb2) 0).trans rfl
  have d1 : w2.cell? ⟨W.heap.size,1,none⟩ = some (.int .i64 a2):=(bc_ (blk_below HN1.out hb2) 1).trans rfl
  have d2 : w2.cell? ⟨W.heap.size,2,none⟩ = some (.int .i64 a3):=(bc_ (blk_below HN1.out hb2) 2).trans rfl
  have HB2:=mk_ (st_ HB1.out hb2)
  clear hb2 q1 c1
  go_wp2_with fail
  refine (hw3 _).mono ?_
  rintro e w3 ⟨rfl,hb3⟩
  go_wp2_with fail
  go_ret
  exact ⟨by rw [HZ2.out];rfl,st_ HB2.out hb3⟩
def impl_CablesValid.f (a0 : Int) (l1 : List (S51)) : Option (Bool) :=
 some (cabsB a0 l1)
set_option maxHeartbeats 4000000 in
set_option maxRecDepth 100000 in
theorem impl_CablesValid.calls (a0 : Int) (A1 : Option Addr) (c1 : Nat) (l1 : List (S51)) (r : Bool) (w : World) (hr1 : Kd.C k51 w A1 l1.length l1) (hc1 : l1.length ≤ c1) (h : impl_CablesValid.f a0 l1 = some r) :
  Calls Try.prog 45 #[.int .i64 a0,.slice A1 l1.length c1] w fun e w' => e = .returned (.bool r) ∧ Below w.heap.size w w':=by
 obtain rfl:=Option.some.inj h
 have hlen:=Kd.C_max hr1
 have hmf : ∀ (fn : Fn) (first cap : Array Value) (w : World),(Instr.makeFunc fn first cap).run Try.prog w = .ok (.func fn first cap) w:=fun _ _ _ _ => rfl
 have hb0 : Below w.heap.size w (w.alloc (.cells #[.int .i64 a0] 3)):=(Below.refl _ w).alloc (Nat.le_refl _) _
 have hp0 : PredB Try.prog 73 #[.pointer (some ⟨w.heap.size,0,none⟩)] encCab (cabB a0) (w.alloc (.cells #[.int .i64 a0] 3)):=x_CablesValid_1 (by simp) (by simp)
 have hw0:=x_win a0 1 8 (w.alloc (.cells #[.int .i64 a0] 3))
 have HA : Aside0 (∀ W,Below (w.alloc (.cells #[.int .i64 a0] 3)).heap.size (w.alloc (.cells #[.int .i64 a0] 3)) W → Calls Try.prog 72 #[.slice A1 l1.length c1,.func (.func 73) #[] #[.pointer (some ⟨w.heap.size,0,none⟩)]] W fun e w' => e = .returned (.bool (l1.all (cabB a0))) ∧ Below W.heap.size W w'):=⟨fun W hW => x_all_cab (cabB a0) 73 _ (enters_of Try.func73 (by kernel_rfl) rfl) A1 c1 l1 W (hp0.later hW) (cb_ hr1 (st_ hb0 hW))⟩
 have HB0:=mk_ hb0
 have HZ : Aside0 (cabsB a0 l1 = ((decide (1 ≤ a0) && decide (a0 ≤ 8)) && (decide (l1.length ≤ 20) && l1.all (cabB a0)))):=⟨rfl⟩
 clear h hr1 hc1 hp0 hb0
 generalize cabsB a0 l1 = z at HZ ⊢
 generalize (decide (1 ≤ a0) && decide (a0 ≤ 8)) = z1 at HZ hw0
 generalize l1.all (cabB a0) = z3 at HZ HA
 cases z1 with
 | false =>
  have HZ2 : Aside0 (z = false):=⟨by rw [HZ.out];rfl⟩
  go_enter Try.func45,Try.ntmps45
  go_wp2_with fail
  refine hw0.mono ?_
  rintro e w1 ⟨rfl,hb1⟩
  go_wp2_with fail
  go_ret
  exact ⟨by rw [HZ2.out];rfl,st_ HB0.out hb1⟩
 | true =>
  by_cases hl : (l1.length : Int) ≤ 20
  ·have HZ2 : Aside0 (z = z3):=⟨by rw [HZ.out,decide_eq_true (show l1.length ≤ 20 by omega)];rfl⟩
   go_enter Try.func45,Try.ntmps45
   go_wp2_with fail
   refine hw0.mono ?_
   rintro e w1 ⟨rfl,hb1⟩
   have ha:=HA.out _ hb1
   have HB1:=mk_ (st_ HB0.out hb1)
   clear hb1 hw0
   go_wp2_with fail
   refine ha.mono ?_
   rintro e w2 ⟨rfl,hb2⟩
   go_wp2_with fail
   go_ret
   exact ⟨by rw [HZ2.out];rfl,st_ HB1.out hb2⟩
  ·have HZ2 : Aside0 (z = false):=⟨by rw [HZ.out,decide_eq_false (show ¬ l1.length ≤ 20 by omega)];rfl⟩
   go_enter Try.func45,Try.ntmps45
   go_wp2_with fail
   refine hw0.mono ?_
   rintro e w1 ⟨rfl,hb1⟩
   clear hw0
   go_wp2_with fail
   go_ret
   exact ⟨by rw [HZ2.out];rfl,st_ HB0.out hb1⟩

/-! ### impl_isNetwork: function 49 -/
def impl_isNetwork.f (a0 : Int) : Option (Bool):=(impl_within.f a0 1 9).bind fun t190 => (some t190)
set_option maxHeartbeats 8000000 in
set_option maxRecDepth 100000 in
theorem impl_isNetwork.calls (a0 : Int) (r : Bool) (w : World) (h : impl_isNetwork.f a0 = some r) :
  Calls Try.prog 49 #[.int .i64 a0] w fun e w' => e = .returned (.bool r) ∧ Drawn0 w w':=by
 have H : ((impl_within.f a0 1 9).bind fun t190 => (some t190)) = some r:=h
 clear h
 replace H:=Option.bind_eq_some_iff.mp H
 obtain ⟨t190,A20,H⟩:=H
 replace H : (some t190) = some r:=H
 have A2:=mk_ A20
 clear A20
 obtain rfl:=Option.some.inj H
 go_enter Try.func49,Try.ntmps49
 go_wp2_with (first|((with_reducible refine gate_callee (f:=48) rfl ?_);refine goesL_ (some 4) rfl rfl Try.func48 (by kernel_rfl) rfl #[.int .i64 a0,.int .i64 1,.int .i64 9] rfl qm_ ?_;(with_reducible refine (impl_within.calls a0 1 9 t190 _ A2.out).mono ?_);rintro e w' ⟨rfl,⟨nd,rfl⟩⟩;refine ⟨_,rfl,?_⟩))
 go_ret
 exact ⟨by first|rfl|(simp;done)|(simp [*];done),by repeat (first|exact Drawn0.refl _|apply Drawn0.step)⟩

-- LIB containsint
set_option maxHeartbeats 4000000 in
set_option maxRecDepth 100000 in
theorem x_IndexFunc_int (p : Int → Bool) (g : Nat) (lb : Array Value) (eg : ∀ args w, (callFunc g args).run Try.prog w = .ok (.enter g args) w) (A0 : Option Addr) (c0 : Nat) (l0 : List Int) (w : World)
    (hp : PredB Try.prog g lb (Value.int .i64) p w) (hr0 : Kd.C (Kd.int .i64) w A0 l0.length l0) :
    Calls Try.prog 91 #[.slice A0 l0.length c0,.func (.func g) #[] lb] w fun e w' => e = .returned (.int .i64 (idxL p l0 0)) ∧ Below w.heap.size w w':=by
  have hlen:=Kd.C_max hr0
  have HR:=Aside0.mk hr0
  have HP:=Aside0.mk hp
  clear hr0 hp
  go_enter Try.func91,Try.ntmps91
  go_wp2
  go_loopg [5,8] l0.length (fun gg _ s8 wr => ∃ kk : Nat,kk ≤ l0.length ∧ l0.length - kk ≤ gg ∧ s8 = .int .i64 kk ∧ Aside0 (Below w.heap.size w wr) ∧ Aside0 (idxL p (l0.drop kk) kk = idxL p l0 0))
  case atStart => exact ⟨0,Nat.zero_le _,by omega,rfl,⟨Below.refl _ w⟩,⟨rfl⟩⟩
  case round =>
    obtain ⟨kk,hkk,hg,rfl,BW,HI⟩:=hrel
    by_cases hlt : kk < l0.length
    · obtain ⟨ad,e,hx⟩:=Kd.at_int (Kd.C_below HR.out BW.out) (kk : Int) (by omega) (by omega)
      cases e
      rw [Int.toNat_natCast] at hx
      obtain ⟨y,hy⟩ : ∃ y,y = rd l0 (kk : Int):=⟨_,rfl⟩
      rw [← hy] at hx
      have hcall:=HP.out wr y BW.out
      have HD : Aside0 (idxL p l0 0 = if p y then (kk : Int) else idxL p (l0.drop (kk + 1)) (kk + 1)):=⟨by rw [← HI.out,idxL_drop p l0 kk hlt,hy,rd_getD]⟩
      clear hy
      cases hq : p y with
      | true =>
        rw [hq] at hcall
        have HQ:=Aside0.mk hq
        clear hq
        go_wp2_with (go_at_fn g;refine hcall.mono ?_;rintro e w' ⟨rfl,hb'⟩)
        go_ret
        exact ⟨by rw [HD.out,HQ.out];rfl,below_step BW.out hb'⟩
      | false =>
        rw [hq] at hcall
        have HQ:=Aside0.mk hq
        clear hq
        go_wp2_with (go_at_fn g;refine hcall.mono ?_;rintro e w' ⟨rfl,hb'⟩)
        go_roundg (l0.length - (kk + 1))
        case measure => omega
        case rel => exact ⟨kk + 1,by omega,by omega,by go_num,⟨below_step BW.out hb'⟩,⟨by rw [HD.out,HQ.out];rfl⟩⟩
    · have e : kk = l0.length:=by omega
      subst e
      go_wp2
      go_ret
      exact ⟨by rw [← HI.out,List.drop_length];rfl,BW.out⟩
set_option maxHeartbeats 4000000 in
set_option maxRecDepth 100000 in
theorem x_ContainsFunc_int (p : Int → Bool) (g : Nat) (lb : Array Value) (eg : ∀ args w, (callFunc g args).run Try.prog w = .ok (.enter g args) w) (A0 : Option Addr) (c0 : Nat) (l0 : List Int) (w : World)
    (hp : PredB Try.prog g lb (Value.int .i64) p w) (hr0 : Kd.C (Kd.int .i64) w A0 l0.length l0) :
    Calls Try.prog 74 #[.slice A0 l0.length c0,.func (.func g) #[] lb] w fun e w' => e = .returned (.bool (l0.any p)) ∧ Below w.heap.size w w':=by
  have hcall:=x_IndexFunc_int p g lb eg A0 c0 l0 w hp hr0
  have HA:=Aside0.mk (idxL_any p l0 0)
  obtain ⟨z,hz⟩ : ∃ z,z = idxL p l0 0:=⟨_,rfl⟩
  rw [← hz] at hcall HA
  clear hp hr0 hz
  go_enter Try.func74,Try.ntmps74
  go_wp2_with (go_at_call 91;refine hcall.mono ?_;rintro e w' ⟨rfl,hb'⟩)
  go_ret
  exact ⟨by rw [← HA.out];rfl,hb'⟩

-- LIB allint
set_option maxHeartbeats 4000000 in
set_option maxRecDepth 100000 in
theorem x_all_int_1 {p : Int → Bool} {g : Nat} {lb : Array Value} (eg : ∀ args w, (callFunc g args).run Try.prog w = .ok (.enter g args) w) {b : Nat} {w : World}
    (hp : PredB Try.prog g lb (Value.int .i64) p w) (hb : b < w.heap.size) (hc : w.cell? ⟨b,0,none⟩ = some (.func (.func g) #[] lb)) :
    PredB Try.prog 75 #[.pointer (some ⟨b,0,none⟩)] (Value.int .i64) (fun x => !p x) w:=by
  intro W x hB
  have hc':=(hB.cell (p:=⟨b,0,none⟩) hb).trans hc
  have hcall:=hp W x hB
  clear hp hc hB hb
  go_enter Try.func75,Try.ntmps75
  go_wp2_with (go_at_fn g;refine hcall.mono ?_;rintro e w' ⟨rfl,hb'⟩)
  go_ret
  exact ⟨rfl,hb'⟩
theorem any_not_all {α : Type} (p : α → Bool) (l : List α) : (!l.any fun x => !p x) = l.all p:=by
  induction l with
  | nil => rfl
  | cons x xs ih => simp only [List.any_cons,List.all_cons,Bool.not_or,Bool.not_not,ih]
set_option maxHeartbeats 4000000 in
set_option maxRecDepth 100000 in
theorem x_all_int (p : Int → Bool) (g : Nat) (lb : Array Value) (eg : ∀ args w, (callFunc g args).run Try.prog w = .ok (.enter g args) w) (A0 : Option Addr) (c0 : Nat) (l0 : List Int) (w : World)
    (hp : PredB Try.prog g lb (Value.int .i64) p w) (hr0 : Kd.C (Kd.int .i64) w A0 l0.length l0) :
    Calls Try.prog 46 #[.slice A0 l0.length c0,.func (.func g) #[] lb] w fun e w' => e = .returned (.bool (l0.all p)) ∧ Below w.heap.size w w':=by
  have hmf : ∀ (fn : Fn) (first cap : Array Value) (w : World),(Instr.makeFunc fn first cap).run Try.prog w = .ok (.func fn first cap) w:=fun _ _ _ _ => rfl
  have hb0 : Below w.heap.size w (w.alloc (.cells #[.func (.func g) #[] lb] 56)):=(Below.refl _ w).alloc (Nat.le_refl _) _
  have hcall:=x_ContainsFunc_int (fun x => !p x) 75 #[.pointer (some ⟨w.heap.size,0,none⟩)] (enters_of Try.func75 (by kernel_rfl) rfl) A0 c0 l0 _ (x_all_int_1 eg (hp.later hb0) (by simp) (by simp)) (Kd.C_below hr0 hb0)
  have HB0:=Aside0.mk hb0
  clear hp hr0 hb0
  go_enter Try.func46,Try.ntmps46
  go_wp2_with (go_at_call 74;refine hcall.mono ?_;rintro e w' ⟨rfl,hb'⟩)
  go_ret
  exact ⟨by rw [any_not_all];rfl,below_step HB0.out hb'⟩

/-! ### impl_NetValid: function 15 (by hand) -/
/-- A bridge of so many;a network. -/
def brB (n x : Int) : Bool:=decide (0 ≤ x) && decide (x ≤ wrap64 (n - 1))
def vlB (x : Int) : Bool:=decide (1 ≤ x) && decide (x ≤ 9)
def netB (n : Int) (cs : List S51) (hs vs : List Int) : Bool:=cabsB n cs && (decide (hs.length ≤ 15) && (decide (vs.length = hs.length) && (hs.all (brB n) && vs.all vlB)))
set_option maxHeartbeats 4000000 in
set_option maxRecDepth 100000 in
theorem x_NetValid_1 {n : Int} {b : Nat} {w : World} (hb : b < w.heap.size) (hc : w.cell? ⟨b,0,none⟩ = some (.int .i64 n)) :
  PredB Try.prog 47 #[.pointer (some ⟨b,0,none⟩)] (Value.int .i64) (brB n) w:=by
 intro W x hB
 have hc':=(hB.cell (p:=⟨b,0,none⟩) hb).trans hc
 have hu:=Try.underlying30
 have hw:=x_win x 0 (wrap64 (n - 1)) W
 have HZ : Aside0 (brB n x = (decide (0 ≤ x) && decide (x ≤ wrap64 (n - 1)))):=⟨rfl⟩
 clear hc hB hb
 generalize brB n x = z at HZ ⊢
 generalize (decide (0 ≤ x) && decide (x ≤ wrap64 (n - 1))) = z2 at HZ hw
 obtain ⟨x1,hx1⟩ : ∃ x1,x1 = wrap64 (n - 1):=⟨_,rfl⟩
 rw [← hx1] at hw
 have y1 : IntKind.i64.wrap (n - 1) = x1:=(i64_w _).trans hx1.symm
 clear hx1
 go_enter Try.func47,Try.ntmps47
 go_wp2_with fail
 refine hw.mono ?_
 rintro e w' ⟨rfl,hb'⟩
 go_wp2_with fail
 go_ret
 exact ⟨by rw [HZ.out];rfl,hb'⟩
theorem isNet_eq (x : Int) : impl_isNetwork.f x = some (vlB x):=by
 unfold impl_isNetwork.f
 rw [win_is]
 rfl
theorem x_isNet (w : World) : PredB Try.prog 49 #[] (Value.int .i64) vlB w:=by
 intro W x hB
 exact (impl_isNetwork.calls x _ W (isNet_eq x)).mono fun e w' ⟨he,hd⟩ => ⟨he,hd.below⟩
def impl_NetValid.f (a0_0 : Int) (l0_1 : List (S51)) (l0_2 : List Int) (l0_3 : List Int) : Option (Bool) :=
 some (netB a0_0 l0_1 l0_2 l0_3)
set_option maxHeartbeats 4000000 in
set_option maxRecDepth 100000 in
theorem impl_NetValid.calls (a0_0 : Int) (A0_1 : Option Addr) (c0_1 : Nat) (l0_1 : List (S51)) (A0_2 : Option Addr) (c0_2 : Nat) (l0_2 : List Int) (A0_3 : Option Addr) (c0_3 : Nat) (l0_3 : List Int) (r : Bool) (w : World) (hr0_1 : Kd.C k51 w A0_1 l0_1.length l0_1) (hc0_1 : l0_1.length ≤ c0_1) (hr0_2 : Kd.C (Kd.int .i64) w A0_2 l0_2.length l0_2) (hc0_2 : l0_2.length ≤ c0_2) (hr0_3 : Kd.C (Kd.int .i64) w A0_3 l0_3.length l0_3) (hc0_3 : l0_3.length ≤ c0_3) (h : impl_NetValid.f a0_0 l0_1 l0_2 l0_3 = some r) :
  Calls Try.prog 15 #[.agg #[.int .i64 a0_0,.slice A0_1 l0_1.length c0_1,.slice A0_2 l0_2.length c0_2,.slice A0_3 l0_3.length c0_3]] w fun e w' => e = .returned (.bool r) ∧ Below w.heap.size w w':=by
 obtain rfl:=Option.some.inj h
 have hu:=Try.underlying30
 have hl2:=Kd.C_max hr0_2
 have hl3:=Kd.C_max hr0_3
 have hmf : ∀ (fn : Fn) (first cap : Array Value) (w : World),(Instr.makeFunc fn first cap).run Try.prog w = .ok (.func fn first cap) w:=fun _ _ _ _ => rfl
 have hb0 : Below w.heap.size w (w.alloc (.cells #[.int .i64 a0_0,.slice A0_1 l0_1.length c0_1,.slice A0_2 l0_2.length c0_2,.slice A0_3 l0_3.length c0_3] 30)):=(Below.refl _ w).alloc (Nat.le_refl _) _
 have hn0:=blk_new w (.cells #[.int .i64 a0_0,.slice A0_1 l0_1.length c0_1,.slice A0_2 l0_2.length c0_2,.slice A0_3 l0_3.length c0_3] 30)
 have hsz : w.heap.size < (w.alloc (.cells #[.int .i64 a0_0,.slice A0_1 l0_1.length c0_1,.slice A0_2 l0_2.length c0_2,.slice A0_3 l0_3.length c0_3] 30)).heap.size:=by simp
 obtain ⟨W0,hW0⟩ : ∃ W0,W0 = w.alloc (.cells #[.int .i64 a0_0,.slice A0_1 l0_1.length c0_1,.slice A0_2 l0_2.length c0_2,.slice A0_3 l0_3.length c0_3] 30):=⟨_,rfl⟩
 rw [← hW0] at hb0 hn0 hsz
 have hp0 : PredB Try.prog 47 #[.pointer (some ⟨w.heap.size,0,none⟩)] (Value.int .i64) (brB a0_0) W0:=x_NetValid_1 hsz ((bc_ hn0 0).trans rfl)
 have hcv:=impl_CablesValid.calls a0_0 A0_1 c0_1 l0_1 _ W0 (cb_ hr0_1 hb0) hc0_1 rfl
 have HA : Aside0 (∀ W,Below W0.heap.size W0 W → Calls Try.prog 46 #[.slice A0_2 l0_2.length c0_2,.func (.func 47) #[] #[.pointer (some ⟨w.heap.size,0,none⟩)]] W fun e w' => e = .returned (.bool (l0_2.all (brB a0_0))) ∧ Below W.heap.size W w'):=⟨fun W hW => x_all_int (brB a0_0) 47 _ (enters_of Try.func47 (by kernel_rfl) rfl) A0_2 c0_2 l0_2 W (hp0.later hW) (cb_ hr0_2 (st_ hb0 hW))⟩
 have HV : Aside0 (∀ W,Below W0.heap.size W0 W → Calls Try.prog 46 #[.slice A0_3 l0_3.length c0_3,.func (.func 49) #[] #[]] W fun e w' => e = .returned (.bool (l0_3.all vlB)) ∧ Below W.heap.size W w'):=⟨fun W hW => x_all_int vlB 49 #[] (enters_of Try.func49 (by kernel_rfl) rfl) A0_3 c0_3 l0_3 W (x_isNet W) (cb_ hr0_3 (st_ hb0 hW))⟩
 have HB0:=mk_ hb0
 have HN0:=mk_ hn0
 have HZ : Aside0 (netB a0_0 l0_1 l0_2 l0_3 = (cabsB a0_0 l0_1 && (decide (l0_2.length ≤ 15) && (decide (l0_3.length = l0_2.length) && (l0_2.all (brB a0_0) && l0_3.all vlB))))):=⟨rfl⟩
 clear h hr0_1 hc0_1 hr0_2 hc0_2 hr0_3 hc0_3 hp0 hb0 hn0 hsz
 generalize netB a0_0 l0_1 l0_2 l0_3 = z at HZ ⊢
 generalize cabsB a0_0 l0_1 = z1 at HZ hcv
 generalize l0_2.all (brB a0_0) = z3 at HZ HA
 generalize l0_3.all vlB = z4 at HZ HV
 subst hW0
 cases z1 with
 | false =>
  have HZ2 : Aside0 (z = false):=⟨by rw [HZ.out];rfl⟩
  go_enter Try.func15,Try.ntmps15
  go_wp2_with fail
  refine hcv.mono ?_
  rintro e w1 ⟨rfl,hb1⟩
  go_wp2_with fail
  go_ret
  exact ⟨by rw [HZ2.out];rfl,st_ HB0.out hb1⟩
 | true =>
 by_cases h15 : (l0_2.length : Int) ≤ 15
 ·by_cases heq : l0_3.length = l0_2.length
  ·have e1 : ((l0_3.length : Int) == (l0_2.length : Int)) = true:=beq_iff_eq.mpr (by omega)
   have e2 : (l0_3.length == l0_2.length) = true:=beq_iff_eq.mpr heq
   have e3 : decide (l0_3.length = l0_2.length) = true:=decide_eq_true heq
   replace HZ : Aside0 (z = (z3 && z4)):=⟨by rw [HZ.out,decide_eq_true (show l0_2.length ≤ 15 by omega),e3];rfl⟩
   clear heq
   cases z3 with
   | false =>
    have HZ2 : Aside0 (z = false):=⟨by rw [HZ.out];rfl⟩
    go_enter Try.func15,Try.ntmps15
    go_wp2_with fail
    refine hcv.mono ?_
    rintro e w1 ⟨rfl,hb1⟩
    have ha:=HA.out _ hb1
    have g2 : w1.cell? ⟨w.heap.size,2,none⟩ = some (.slice A0_2 l0_2.length c0_2):=(bc_ (blk_below HN0.out hb1) 2).trans rfl
    have g3 : w1.cell? ⟨w.heap.size,3,none⟩ = some (.slice A0_3 l0_3.length c0_3):=(bc_ (blk_below HN0.out hb1) 3).trans rfl
    have HB1:=mk_ (st_ HB0.out hb1)
    clear hb1 hcv
    go_wp2_with fail
    refine ha.mono ?_
    rintro e w2 ⟨rfl,hb2⟩
    go_wp2_with fail
    go_ret
    exact ⟨by rw [HZ2.out];rfl,st_ HB1.out hb2⟩
   | true =>
    have HZ2 : Aside0 (z = z4):=⟨by rw [HZ.out];rfl⟩
    go_enter Try.func15,Try.ntmps15
    go_wp2_with fail
    refine hcv.mono ?_
    rintro e w1 ⟨rfl,hb1⟩
    have ha:=HA.out _ hb1
    have g2 : w1.cell? ⟨w.heap.size,2,none⟩ = some (.slice A0_2 l0_2.length c0_2):=(bc_ (blk_below HN0.out hb1) 2).trans rfl
    have g3 : w1.cell? ⟨w.heap.size,3,none⟩ = some (.slice A0_3 l0_3.length c0_3):=(bc_ (blk_below HN0.out hb1) 3).trans rfl
    have HB1:=mk_ hb1
    clear hb1 hcv
    go_wp2_with fail
    refine ha.mono ?_
    rintro e w2 ⟨rfl,hb2⟩
    have HB2:=mk_ (st_ HB1.out hb2)
    have hv:=HV.out _ HB2.out
    have k3 : w2.cell? ⟨w.heap.size,3,none⟩ = some (.slice A0_3 l0_3.length c0_3):=(bc_ (blk_below HN0.out HB2.out) 3).trans rfl
    clear hb2 g2 g3 ha
    go_wp2_with fail
    refine hv.mono ?_
    rintro e w3 ⟨rfl,hb3⟩
    go_wp2_with fail
    go_ret
    exact ⟨by rw [HZ2.out];rfl,st_ HB0.out (st_ HB2.out hb3)⟩
  ·have e1 : ((l0_3.length : Int) == (l0_2.length : Int)) = false:=beq_eq_false_iff_ne.mpr (by omega)
   have e2 : (l0_3.length == l0_2.length) = false:=beq_eq_false_iff_ne.mpr heq
   have e3 : decide (l0_3.length = l0_2.length) = false:=decide_eq_false heq
   have HZ2 : Aside0 (z = false):=⟨by rw [HZ.out,e3];simp⟩
   clear heq
   go_enter Try.func15,Try.ntmps15
   go_wp2_with fail
   refine hcv.mono ?_
   rintro e w1 ⟨rfl,hb1⟩
   have g2 : w1.cell? ⟨w.heap.size,2,none⟩ = some (.slice A0_2 l0_2.length c0_2):=(bc_ (blk_below HN0.out hb1) 2).trans rfl
   have g3 : w1.cell? ⟨w.heap.size,3,none⟩ = some (.slice A0_3 l0_3.length c0_3):=(bc_ (blk_below HN0.out hb1) 3).trans rfl
   have HB1:=mk_ (st_ HB0.out hb1)
   clear hb1 hcv
   go_wp2_with fail
   go_ret
   exact ⟨by rw [HZ2.out];rfl,HB1.out⟩
 ·have HZ2 : Aside0 (z = false):=⟨by rw [HZ.out,decide_eq_false (show ¬ l0_2.length ≤ 15 by omega)];rfl⟩
  go_enter Try.func15,Try.ntmps15
  go_wp2_with fail
  refine hcv.mono ?_
  rintro e w1 ⟨rfl,hb1⟩
  have g2 : w1.cell? ⟨w.heap.size,2,none⟩ = some (.slice A0_2 l0_2.length c0_2):=(bc_ (blk_below HN0.out hb1) 2).trans rfl
  have HB1:=mk_ (st_ HB0.out hb1)
  clear hb1 hcv
  go_wp2_with fail
  go_ret
  exact ⟨by rw [HZ2.out];rfl,HB1.out⟩

/-! ### impl_Cable_79: function 79 (by hand) -/
def impl_Cable_79.f (l0 : List (S51)) : Option ((List (S51))) :=
 if l0.length < 5864062014805 then some l0 else none
set_option maxHeartbeats 4000000 in
set_option maxRecDepth 100000 in
theorem impl_Cable_79.calls (A0 : Option Addr) (c0 : Nat) (l0 : List (S51)) (r : List (S51)) (w : World) (hr0 : Kd.C k51 w A0 l0.length l0) (hc0 : l0.length ≤ c0) (h : impl_Cable_79.f l0 = some r) :
  Calls Try.prog 79 #[.slice A0 l0.length c0] w fun e w' => ∃ v0_ : Value,e = .returned (v0_) ∧ Kd.R k51 51 w' w.heap.size (fun _ => True) v0_ r ∧ Below w.heap.size w w':=by
 unfold impl_Cable_79.f at h
 by_cases hl : l0.length < 5864062014805
 ·rw [if_pos hl] at h
  obtain rfl:=Option.some.inj h
  clear h
  cases A0 with
  | none =>
   cases l0 with
   | cons x t =>
    obtain ⟨ad,e,_⟩:=at_T51 hr0 (0 : Int) (by omega) (by simp)
    cases e
   | nil =>
    have heq : ∀ w,(binOp .eql 28 (.slice none 0 c0) (.slice none 0 0)).run Try.prog w = .ok (.bool true) w:=fun w => Lib.run_eql_slice_nil (P:=Try.prog) w 28 51 none 0 c0 0 0 Try.underlying28
    clear hr0 hc0 hl
    simp only [List.length_nil]
    go_enter Try.func79,Try.ntmps79
    go_wp2
    go_ret
    exact ⟨_,rfl,Kd.R_nil _ _ _ _ _,Below.refl _ w⟩
  | some ad =>
   have heq : ∀ w,(binOp .eql 28 (.slice (some ad) l0.length c0) (.slice none 0 0)).run Try.prog w = .ok (.bool false) w:=fun w => Lib.run_eql_slice_nil (P:=Try.prog) w 28 51 (some ad) l0.length c0 0 0 Try.underlying28
   have HR:=mk_ hr0
   have HL:=mk_ hl
   clear hr0 hl
   go_enter Try.func79,Try.ntmps79
   go_wp2_with (first|((with_reducible refine gate_dst (N:=5) rfl ?_);refine Kd.R_lit (w0:=w) k51 _ 51 ?hg (N:=5) ?hd (xs:=([] : List S51)) (inner:=[]) (ok:=fun _ => True) (okp:=fun _ => True) ?hr ?hp (fun _ hk => hk) trivial (Below.refl _ _) (Nat.le_refl _) (by simp) ?_;(case hd => rfl);(case hg => rfl);(case hr => first|(go_simp;done)|(go_simp;rfl));(case hp => exact (Reps.none _ _));intro v1 w1 ho hb _ _;have HO:=mk_ ho;have HB:=mk_ hb;clear ho hb)|((with_reducible refine gate_dst (N:=7) rfl ?_);refine Kd.R_append_rows k51 (w0:=w) w.heap.size rfl (.tmp 5) (.tmp 6) 28 51 (.agg #[(.int .i64 0),(.int .i64 0),(.int .i64 0)]) 24 rfl Try.underlying28 (by kernel_rfl) rfl (by decide) (by omega) v1 [] l0 _ _ _ (fun _ => True) (fun _ => False) rfl rfl HO.out (cb_ HR.out HB.out) (fun _ _ h => h) (fun _ h => h.elim) (fun _ _ => trivial) HB.out HB.out.size (by have:=HL.out;simp only [List.length_nil];omega) ?_;intro v2 w2 ho hb _ _;rw [List.nil_append] at ho;have HO2:=mk_ ho;have HB2:=mk_ hb;clear ho hb))
   go_ret
   exact ⟨_,rfl,HO2.out,HB2.out⟩
 ·rw [if_neg hl] at h
  cases h

/-! ### slices_Clone_int_int: function 80 (by hand) -/
def slices_Clone_int_int.f (l0 : List Int) : Option (List Int) :=
 if l0.length < 17592186044416 then some l0 else none
set_option maxHeartbeats 4000000 in
set_option maxRecDepth 100000 in
theorem slices_Clone_int_int.calls (A0 : Option Addr) (c0 : Nat) (l0 : List Int) (r : List Int) (w : World) (hr0 : Kd.C (Kd.int .i64) w A0 l0.length l0) (hc0 : l0.length ≤ c0) (h : slices_Clone_int_int.f l0 = some r) :
  Calls Try.prog 80 #[.slice A0 l0.length c0] w fun e w' => ∃ v0_ : Value,e = .returned (v0_) ∧ Kd.R (Kd.int .i64) 3 w' w.heap.size (fun _ => True) v0_ r ∧ Below w.heap.size w w':=by
 unfold slices_Clone_int_int.f at h
 by_cases hl : l0.length < 17592186044416
 ·rw [if_pos hl] at h
  obtain rfl:=Option.some.inj h
  clear h
  cases A0 with
  | none =>
   cases l0 with
   | cons x t =>
    obtain ⟨ad,e,_⟩:=Kd.at_int hr0 (0 : Int) (by omega) (by simp)
    cases e
   | nil =>
    have heq : ∀ w,(binOp .eql 23 (.slice none 0 c0) (.slice none 0 0)).run Try.prog w = .ok (.bool true) w:=fun w => Lib.run_eql_slice_nil (P:=Try.prog) w 23 3 none 0 c0 0 0 Try.underlying23
    clear hr0 hc0 hl
    simp only [List.length_nil]
    go_enter Try.func80,Try.ntmps80
    go_wp2
    go_ret
    exact ⟨_,rfl,Kd.R_nil _ _ _ _ _,Below.refl _ w⟩
  | some ad =>
   have heq : ∀ w,(binOp .eql 23 (.slice (some ad) l0.length c0) (.slice none 0 0)).run Try.prog w = .ok (.bool false) w:=fun w => Lib.run_eql_slice_nil (P:=Try.prog) w 23 3 (some ad) l0.length c0 0 0 Try.underlying23
   have HR:=mk_ hr0
   have HL:=mk_ hl
   clear hr0 hl
   go_enter Try.func80,Try.ntmps80
   go_wp2_with (first|((with_reducible refine gate_dst (N:=5) rfl ?_);refine Kd.R_lit (w0:=w) (Kd.int .i64) _ 3 ?hg (N:=5) ?hd (xs:=([] : List Int)) (inner:=[]) (ok:=fun _ => True) (okp:=fun _ => True) ?hr ?hp (fun _ hk => hk) trivial (Below.refl _ _) (Nat.le_refl _) (by simp) ?_;(case hd => rfl);(case hg => rfl);(case hr => first|(go_simp;done)|(go_simp;rfl));(case hp => exact (Reps.none _ _));intro v1 w1 ho hb _ _;have HO:=mk_ ho;have HB:=mk_ hb;clear ho hb)|((with_reducible refine gate_dst (N:=7) rfl ?_);refine Kd.R_append_rows (Kd.int .i64) (w0:=w) w.heap.size rfl (.tmp 5) (.tmp 6) 23 3 (.int .i64 0) 8 rfl Try.underlying23 (by kernel_rfl) rfl (by decide) (by omega) v1 [] l0 _ _ _ (fun _ => True) (fun _ => False) rfl rfl HO.out (cb_ HR.out HB.out) (fun _ _ h => h) (fun _ h => h.elim) (fun _ _ => trivial) HB.out HB.out.size (by have:=HL.out;simp only [List.length_nil];omega) ?_;intro v2 w2 ho hb _ _;rw [List.nil_append] at ho;have HO2:=mk_ ho;have HB2:=mk_ hb;clear ho hb))
   go_ret
   exact ⟨_,rfl,HO2.out,HB2.out⟩
 ·rw [if_neg hl] at h
  cases h

/-! ### impl_Net_clone: function 59 -/
def impl_Net_clone.f (a0_0 : Int) (l0_1 : List (S51)) (l0_2 : List Int) (l0_3 : List Int) : Option (Int × (List (S51)) × List Int × List Int):=(impl_Cable_79.f l0_1).bind fun t193 => ((slices_Clone_int_int.f l0_2).bind fun t196 => ((slices_Clone_int_int.f l0_3).bind fun t199 => (some (a0_0,t193,t196,t199))))
def impl_Net_clone.T1 : Bool × List (List Nat × List Nat):=(true,[([],[]),([0],[0]),([1],[1]),([],[]),([3],[3]),([4,2],[4]),([],[]),([6],[6]),([7,5],[7]),([0,1,2,3,4,6,7],[]),([9,2,8,0,1,2,3,4,6,7],[2,9]),([0,1,2,3,4,5,6,7,9,10],[]),([11,5,10,0,1,2,3,4,5,6,7,9,10],[5,11]),([0,1,2,3,4,5,6,7,8,9,10,11,12],[]),([13,8,12,0,1,2,3,4,5,6,7,8,9,10,11,12],[8,13])])
def impl_Net_clone.B1 : List Nat:=[0,1,3,0,8,31,0,64,255,223,1023,2047,4095,8191,16383]
theorem impl_Net_clone.tab1 : rtab .any (opsOf Try.f59 1) = impl_Net_clone.T1:=by kernel_rfl
theorem impl_Net_clone.bits1 : waitsOk impl_Net_clone.T1.2 impl_Net_clone.B1 = true:=by kernel_rfl
set_option maxHeartbeats 8000000 in
set_option maxRecDepth 100000 in
theorem impl_Net_clone.calls (a0_0 : Int) (A0_1 : Option Addr) (c0_1 : Nat) (l0_1 : List (S51)) (A0_2 : Option Addr) (c0_2 : Nat) (l0_2 : List Int) (A0_3 : Option Addr) (c0_3 : Nat) (l0_3 : List Int) (r1 : Int) (r2 : List (S51)) (r3 : List Int) (r4 : List Int) (w : World) (hr0_1 : Kd.C k51 w A0_1 l0_1.length l0_1) (hc0_1 : l0_1.length ≤ c0_1) (hr0_2 : Kd.C (Kd.int .i64) w A0_2 l0_2.length l0_2) (hc0_2 : l0_2.length ≤ c0_2) (hr0_3 : Kd.C (Kd.int .i64) w A0_3 l0_3.length l0_3) (hc0_3 : l0_3.length ≤ c0_3) (h : impl_Net_clone.f a0_0 l0_1 l0_2 l0_3 = some (r1,r2,r3,r4)) :
  Calls Try.prog 59 #[.agg #[.int .i64 a0_0,.slice A0_1 l0_1.length c0_1,.slice A0_2 l0_2.length c0_2,.slice A0_3 l0_3.length c0_3]] w fun e w' => ∃ v1_ v2_ v3_ : Value,e = .returned (.agg #[.int .i64 r1,v1_,v2_,v3_]) ∧ Kd.R k51 51 w' w.heap.size (fun _ => True) v1_ r2 ∧ Kd.R (Kd.int .i64) 3 w' w.heap.size (fun k_ => some k_ ≠ (v3_ : Value).ownBlock) v2_ r3 ∧ Kd.R (Kd.int .i64) 3 w' w.heap.size (fun k_ => some k_ ≠ (v2_ : Value).ownBlock) v3_ r4 ∧ Below w.heap.size w w':=by
 have hu30:=Try.underlying30
 have HR0_1:=mk_ hr0_1
 have HC0_1:=mk_ hc0_1
 clear hr0_1 hc0_1
 have HR0_2:=mk_ hr0_2
 have HC0_2:=mk_ hc0_2
 clear hr0_2 hc0_2
 have HR0_3:=mk_ hr0_3
 have HC0_3:=mk_ hc0_3
 clear hr0_3 hc0_3
 have HB:=mk_ (Below.refl w.heap.size w)
 have H : ((impl_Cable_79.f l0_1).bind fun t193 => ((slices_Clone_int_int.f l0_2).bind fun t196 => ((slices_Clone_int_int.f l0_3).bind fun t199 => (some (a0_0,t193,t196,t199))))) = some (r1,r2,r3,r4):=h
 clear h
 replace H:=Option.bind_eq_some_iff.mp H
 obtain ⟨t193,A20,H⟩:=H
 replace H : ((slices_Clone_int_int.f l0_2).bind fun t196 => ((slices_Clone_int_int.f l0_3).bind fun t199 => (some (a0_0,t193,t196,t199)))) = some (r1,r2,r3,r4):=H
 have A2:=mk_ A20
 clear A20
 replace H:=Option.bind_eq_some_iff.mp H
 obtain ⟨t196,A30,H⟩:=H
 replace H : ((slices_Clone_int_int.f l0_3).bind fun t199 => (some (a0_0,t193,t196,t199))) = some (r1,r2,r3,r4):=H
 have A3:=mk_ A30
 clear A30
 replace H:=Option.bind_eq_some_iff.mp H
 obtain ⟨t199,A40,H⟩:=H
 replace H : (some (a0_0,t193,t196,t199)) = some (r1,r2,r3,r4):=H
 have A4:=mk_ A40
 clear A40
 simp only [Option.some.injEq,Prod.mk.injEq] at H
 obtain ⟨rfl,rfl,rfl,rfl⟩:=H
 go_enter Try.func59,Try.ntmps59
 try go_wp2_with (first|((with_reducible refine gate_dst (N:=1) rfl ?_);refine box_event ?hg (N:=1) ?hd (cs:=#[.int .i64 a0_0,.slice A0_1 l0_1.length c0_1,.slice A0_2 l0_2.length c0_2,.slice A0_3 l0_3.length c0_3]) (t:=30) ?hr ?_;(case hd => rfl);(case hg => rfl);(case hr => first|(go_simp;done)|(go_simp;rfl));intro gb191 hg w5 hbox hb;have n0_:=mk_ (st_ (qb_ HB) hb);have n1_:=mk_ (hbox);have n2_:=mk_ ((by rw [hg];exact (bz_ (qb_ HB)) : w.heap.size ≤ gb191));have n3_:=mk_ ((by rw [hg];exact (bz_ (qb_ HB)) : w.heap.size ≤ gb191));clear HB;have HB:=n0_;have BK191:=n1_;have GW191:=n2_;have GE191:=n3_;clear n0_ n1_ n2_ n3_ hb hbox hg)|((with_reducible refine gate_dst (N:=2) rfl ?_);refine box_event ?hg (N:=2) ?hd (cs:=#[.int .i64 0,.slice none 0 0,.slice none 0 0,.slice none 0 0]) (t:=30) ?hr ?_;(case hd => rfl);(case hg => rfl);(case hr => first|(go_simp;done)|(go_simp;rfl));intro gb192 hg w6 hbox hb;have n0_:=mk_ (blk_below (g:=gb191) (o:=.cells #[.int .i64 a0_0,.slice A0_1 l0_1.length c0_1,.slice A0_2 l0_2.length c0_2,.slice A0_3 l0_3.length c0_3] 30 (0,0)) (qk_ BK191) hb);have n1_:=mk_ (st_ (qc_ HB GE191) hb);have n2_:=mk_ (hbox);have n3_:=mk_ ((by rw [hg];exact (bz_ (qc_ HB GE191)) : w.heap.size ≤ gb192));have n4_:=mk_ ((by rw [hg];exact (bz_ (qc_ HB GE191)) : w.heap.size ≤ gb192));have n5_:=mk_ ((by rw [hg];exact Nat.ne_of_lt (blk_lt (g:=gb191) (o:=.cells #[.int .i64 a0_0,.slice A0_1 l0_1.length c0_1,.slice A0_2 l0_2.length c0_2,.slice A0_3 l0_3.length c0_3] 30 (0,0)) (qk_ BK191)) : gb191 ≠ gb192));have n6_:=mk_ ((by rw [hg];exact Nat.ne_of_gt (blk_lt (g:=gb191) (o:=.cells #[.int .i64 a0_0,.slice A0_1 l0_1.length c0_1,.slice A0_2 l0_2.length c0_2,.slice A0_3 l0_3.length c0_3] 30 (0,0)) (qk_ BK191)) : gb192 ≠ gb191));clear BK191 HB;have BK191:=n0_;have HB:=n1_;have BK192:=n2_;have GW192:=n3_;have GE192:=n4_;have NB191_192:=n5_;have NB192_191:=n6_;clear n0_ n1_ n2_ n3_ n4_ n5_ n6_ hb hbox hg))
 have n0_:=mk_ (kd_ BK191.out)
 have n1_:=mk_ (kd_ BK192.out)
 have n2_:=mk_ (bd_ HB.out)
 clear BK191
 clear BK192
 clear HB
 have BK191:=n0_
 have BK192:=n1_
 have HB:=n2_
 clear n0_ n1_ n2_
 refine start_ (n:=15) (S:=fun w' => w'.cell? ⟨gb191,0,none⟩ = some (.int .i64 a0_0) ∧ w'.cell? ⟨gb191,1,none⟩ = some (.slice A0_1 l0_1.length c0_1) ∧ w'.cell? ⟨gb191,2,none⟩ = some (.slice A0_2 l0_2.length c0_2) ∧ w'.cell? ⟨gb191,3,none⟩ = some (.slice A0_3 l0_3.length c0_3)) (ds:=[10,12,14]) #[false,false,false,false,false,false,false,false,false,false,false,false,false,false,false] (by kernel_rfl) rfl rfl ⟨(bc_ BK191.out 0).trans rfl,(bc_ BK191.out 1).trans rfl,(bc_ BK191.out 2).trans rfl,(bc_ BK191.out 3).trans rfl⟩ (fun hHeld => ?_);refine with_tabW impl_Net_clone.tab1 impl_Net_clone.bits1 (fun HT_ HW_ => ?_)
 generalize w6.drew = w7 at BK191 BK192 HB hHeld ⊢
 refine pure_ (i:=0) (N:=some 3) (v:=?_) (a':=?_) #[true,false,false,false,false,false,false,false,false,false,false,false,false,false,false] rfl rfl (any_of HT_.out (by kernel_rfl)) (fun _ _ _ h => h) (Or.inl ⟨by rfl,?_⟩) ?_ ?_
 rotate_left
 ·intro w'
  go_simp
  with_reducible rfl
 rotate_left
 ·simp only [Act.put,sx_,sy_,sz_,i64_w,i32_w]
  rfl
 refine pure_ (i:=3) (N:=some 6) (v:=?_) (a':=?_) #[true,false,false,true,false,false,false,false,false,false,false,false,false,false,false] rfl rfl (any_of HT_.out (by kernel_rfl)) (fun _ _ _ h => h) (Or.inl ⟨by rfl,?_⟩) ?_ ?_
 rotate_left
 ·intro w'
  go_simp
  with_reducible rfl
 rotate_left
 ·simp only [Act.put,sx_,sy_,sz_,i64_w,i32_w]
  rfl
 refine pure_ (i:=6) (N:=some 9) (v:=?_) (a':=?_) #[true,false,false,true,false,false,true,false,false,false,false,false,false,false,false] rfl rfl (any_of HT_.out (by kernel_rfl)) (fun _ _ _ h => h) (Or.inl ⟨by rfl,?_⟩) ?_ ?_
 rotate_left
 ·intro w'
  go_simp
  with_reducible rfl
 rotate_left
 ·simp only [Act.put,sx_,sy_,sz_,i64_w,i32_w]
  rfl
 refine take_ (i:=1) (N:=some 4) (v:=?_) (a':=?_) #[true,true,false,true,false,false,true,false,false,false,false,false,false,false,false] rfl rfl (take_ofW HT_.out HW_.out (by kernel_rfl)) (fun _ _ _ h => h) (Or.inl ⟨by rfl,?_⟩) hHeld ?_ ?_
 rotate_left
 ·rintro w' ⟨s0,s1,s2,s3⟩
  go_simp
  with_reducible rfl
 rotate_left
 ·simp only [Act.put,sx_,sy_,sz_,i64_w,i32_w]
  rfl
 refine take_ (i:=4) (N:=some 7) (v:=?_) (a':=?_) #[true,true,false,true,true,false,true,false,false,false,false,false,false,false,false] rfl rfl (take_ofW HT_.out HW_.out (by kernel_rfl)) (fun _ _ _ h => h) (Or.inl ⟨by rfl,?_⟩) hHeld ?_ ?_
 rotate_left
 ·rintro w' ⟨s0,s1,s2,s3⟩
  go_simp
  with_reducible rfl
 rotate_left
 ·simp only [Act.put,sx_,sy_,sz_,i64_w,i32_w]
  rfl
 refine take_ (i:=7) (N:=some 10) (v:=?_) (a':=?_) #[true,true,false,true,true,false,true,true,false,false,false,false,false,false,false] rfl rfl (take_ofW HT_.out HW_.out (by kernel_rfl)) (fun _ _ _ h => h) (Or.inl ⟨by rfl,?_⟩) hHeld ?_ ?_
 rotate_left
 ·rintro w' ⟨s0,s1,s2,s3⟩
  go_simp
  with_reducible rfl
 rotate_left
 ·simp only [Act.put,sx_,sy_,sz_,i64_w,i32_w]
  rfl
 refine one_ (i:=2) (N:=some 5) #[true,true,true,true,true,false,true,true,false,false,false,false,false,false,false] rfl rfl (one_of HT_.out (by kernel_rfl)) (by decide) (fun K hK => ?_)
 refine goes_ Try.func79 (by kernel_rfl) rfl #[.slice A0_1 l0_1.length c0_1] (by rfl) rfl rfl qm_ ?_
 with_reducible refine (impl_Cable_79.calls _ _ l0_1 t193 _ ?side1 ?side2 A2.out).mono ?_
 (case side1 => exact qn_ HR0_1 HB)
 (case side2 => exact HC0_1.out)
 rintro e w8 ⟨v194,rfl,ho0,hb⟩
 refine ⟨_,rfl,?_⟩
 have n0_:=mk_ (Kd.R_lower ho0 (bz_ (qd_ HB GE191 GE192)))
 have n1_:=mk_ (blk_below (g:=gb191) (o:=.cells #[.int .i64 a0_0,.slice A0_1 l0_1.length c0_1,.slice A0_2 l0_2.length c0_2,.slice A0_3 l0_3.length c0_3] 30 (0,0)) (qk_ BK191) hb)
 have n2_:=mk_ (blk_below (g:=gb192) (o:=.cells #[.int .i64 0,.slice none 0 0,.slice none 0 0,.slice none 0 0] 30 (0,0)) (qk_ BK192) hb)
 have n3_:=mk_ (st_ (qd_ HB GE191 GE192) hb)
 clear BK191
 clear BK192
 clear HB
 have HO195:=n0_
 have BK191:=n1_
 have BK192:=n2_
 have HB:=n3_
 clear n0_ n1_ n2_ n3_
 (try clear hb)
 (try clear hb2)
 (try clear hk)
 (try clear hi)
 (try clear ho0)
 refine hK.out _ _ ⟨(bc_ BK191.out 0).trans rfl,(bc_ BK191.out 1).trans rfl,(bc_ BK191.out 2).trans rfl,(bc_ BK191.out 3).trans rfl⟩ (fun hHeld => ?_)
 clear hK K
 refine norm_ (a':=?_) ?_ ?_
 rotate_left
 ·show Act.put _ (some 5) _ = _
  simp only [Act.put,sx_,sy_,sz_,i64_w,i32_w]
  rfl
 refine pure_ (i:=9) (N:=some 12) (v:=?_) (a':=?_) #[true,true,true,true,true,false,true,true,false,true,false,false,false,false,false] rfl rfl (any_of HT_.out (by kernel_rfl)) (fun _ _ _ h => h) (Or.inl ⟨by rfl,?_⟩) ?_ ?_
 rotate_left
 ·intro w'
  go_simp
  with_reducible rfl
 rotate_left
 ·simp only [Act.put,sx_,sy_,sz_,i64_w,i32_w]
  rfl
 refine one_ (i:=5) (N:=some 8) #[true,true,true,true,true,true,true,true,false,true,false,false,false,false,false] rfl rfl (one_of HT_.out (by kernel_rfl)) (by decide) (fun K hK => ?_)
 refine goes_ Try.func80 (by kernel_rfl) rfl #[.slice A0_2 l0_2.length c0_2] (by rfl) rfl rfl qm_ ?_
 with_reducible refine (slices_Clone_int_int.calls _ _ l0_2 t196 _ ?side1 ?side2 A3.out).mono ?_
 (case side1 => exact qn_ HR0_2 HB)
 (case side2 => exact HC0_2.out)
 rintro e w9 ⟨v197,rfl,ho0,hb⟩
 refine ⟨_,rfl,?_⟩
 have n0_:=mk_ (rb_ (qr_ HO195) hb)
 have n1_:=mk_ (Kd.R_lower ho0 (bz_ (qd_ HB GE191 GE192)))
 have n2_:=mk_ (blk_below (g:=gb191) (o:=.cells #[.int .i64 a0_0,.slice A0_1 l0_1.length c0_1,.slice A0_2 l0_2.length c0_2,.slice A0_3 l0_3.length c0_3] 30 (0,0)) (qk_ BK191) hb)
 have n3_:=mk_ (blk_below (g:=gb192) (o:=.cells #[.int .i64 0,.slice none 0 0,.slice none 0 0,.slice none 0 0] 30 (0,0)) (qk_ BK192) hb)
 have n4_:=mk_ (st_ (qd_ HB GE191 GE192) hb)
 clear HO195
 clear BK191
 clear BK192
 clear HB
 have HO195:=n0_
 have HO198:=n1_
 have BK191:=n2_
 have BK192:=n3_
 have HB:=n4_
 clear n0_ n1_ n2_ n3_ n4_
 (try clear hb)
 (try clear hb2)
 (try clear hk)
 (try clear hi)
 (try clear ho0)
 refine hK.out _ _ ⟨(bc_ BK191.out 0).trans rfl,(bc_ BK191.out 1).trans rfl,(bc_ BK191.out 2).trans rfl,(bc_ BK191.out 3).trans rfl⟩ (fun hHeld => ?_)
 clear hK K
 refine norm_ (a':=?_) ?_ ?_
 rotate_left
 ·show Act.put _ (some 8) _ = _
  simp only [Act.put,sx_,sy_,sz_,i64_w,i32_w]
  rfl
 refine one_ (i:=8) (N:=some 11) #[true,true,true,true,true,true,true,true,true,true,false,false,false,false,false] rfl rfl (one_of HT_.out (by kernel_rfl)) (by decide) (fun K hK => ?_)
 refine goes_ Try.func80 (by kernel_rfl) rfl #[.slice A0_3 l0_3.length c0_3] (by rfl) rfl rfl qm_ ?_
 with_reducible refine (slices_Clone_int_int.calls _ _ l0_3 t199 _ ?side1 ?side2 A4.out).mono ?_
 (case side1 => exact qn_ HR0_3 HB)
 (case side2 => exact HC0_3.out)
 rintro e w10 ⟨v200,rfl,ho0,hb⟩
 refine ⟨_,rfl,?_⟩
 have n0_:=mk_ (rb_ (qr_ HO195) hb)
 have n1_:=mk_ (re_ (qr_ HO198) (Kd.R_base ho0) hb)
 have n2_:=mk_ (Kd.R_lower (Kd.R_new' ho0 (Kd.R_lt (qr_ HO198))) (bz_ (qd_ HB GE191 GE192)))
 have n3_:=mk_ (blk_below (g:=gb191) (o:=.cells #[.int .i64 a0_0,.slice A0_1 l0_1.length c0_1,.slice A0_2 l0_2.length c0_2,.slice A0_3 l0_3.length c0_3] 30 (0,0)) (qk_ BK191) hb)
 have n4_:=mk_ (blk_below (g:=gb192) (o:=.cells #[.int .i64 0,.slice none 0 0,.slice none 0 0,.slice none 0 0] 30 (0,0)) (qk_ BK192) hb)
 have n5_:=mk_ (st_ (qd_ HB GE191 GE192) hb)
 clear HO195
 clear HO198
 clear BK191
 clear BK192
 clear HB
 have HO195:=n0_
 have HO198:=n1_
 have HO201:=n2_
 have BK191:=n3_
 have BK192:=n4_
 have HB:=n5_
 clear n0_ n1_ n2_ n3_ n4_ n5_
 (try clear hb)
 (try clear hb2)
 (try clear hk)
 (try clear hi)
 (try clear ho0)
 obtain ⟨Ao11,co11,eo11⟩:=Kd.R_slice HO195.out
 (first|subst eo11|(injection eo11 with f1_ f2_ f3_;have f4_:=f1_.symm;have f5_:=f3_.symm;clear f1_ f2_ f3_;subst f4_;subst f5_))
 obtain ⟨Ao13,co13,eo13⟩:=Kd.R_slice HO198.out
 (first|subst eo13|(injection eo13 with f1_ f2_ f3_;have f4_:=f1_.symm;have f5_:=f3_.symm;clear f1_ f2_ f3_;subst f4_;subst f5_))
 obtain ⟨Ao15,co15,eo15⟩:=Kd.R_slice HO201.out
 (first|subst eo15|(injection eo15 with f1_ f2_ f3_;have f4_:=f1_.symm;have f5_:=f3_.symm;clear f1_ f2_ f3_;subst f4_;subst f5_))
 refine hK.out _ _ ⟨(bc_ BK191.out 0).trans rfl,(bc_ BK191.out 1).trans rfl,(bc_ BK191.out 2).trans rfl,(bc_ BK191.out 3).trans rfl⟩ (fun hHeld => ?_)
 clear hK K
 refine norm_ (a':=?_) ?_ ?_
 rotate_left
 ·show Act.put _ (some 11) _ = _
  simp only [Act.put,sx_,sy_,sz_,i64_w,i32_w]
  rfl
 refine last_ (i:=10) (N:=none) #[true,true,true,true,true,true,true,true,true,true,true,false,false,false,false] rfl rfl (one_of HT_.out (by kernel_rfl)) (by decide) (fun K hK => ?_)
 have hs12 : w10.cell? ⟨gb191,1,none⟩ = some (.slice A0_1 l0_1.length c0_1):=(bc_ BK191.out 1).trans rfl
 have hfs12:=bf_ BK191.out 1
 have hns12_1:=NB192_191.out
 have hms12_1:=NB191_192.out
 refine skip_ (w1:=?_) (by rfl) rfl ?_ ?_
 rotate_left
 ·go_simp
  rfl
 refine hK.out _ _ ?_
 clear hK K
 refine pure_ (i:=11) (N:=some 13) (v:=?_) (a':=?_) #[true,true,true,true,true,true,true,true,true,true,true,true,false,false,false] rfl rfl (any_of HT_.out (by kernel_rfl)) (fun _ _ _ h => h) (Or.inl ⟨by rfl,?_⟩) ?_ ?_
 rotate_left
 ·intro w'
  go_simp
  with_reducible rfl
 rotate_left
 ·simp only [Act.put,sx_,sy_,sz_,i64_w,i32_w]
  rfl
 refine last_ (i:=12) (N:=none) #[true,true,true,true,true,true,true,true,true,true,true,true,true,false,false] rfl rfl (one_of HT_.out (by kernel_rfl)) (by decide) (fun K hK => ?_)
 have hs14 : w10.cell? ⟨gb191,2,none⟩ = some (.slice A0_2 l0_2.length c0_2):=(bc_ BK191.out 2).trans rfl
 have hfs14:=bf_ BK191.out 2
 have hns14_1:=NB192_191.out
 have hms14_1:=NB191_192.out
 refine skip_ (w1:=?_) (by rfl) rfl ?_ ?_
 rotate_left
 ·go_simp
  rfl
 refine hK.out _ _ ?_
 clear hK K
 refine pure_ (i:=13) (N:=some 14) (v:=?_) (a':=?_) #[true,true,true,true,true,true,true,true,true,true,true,true,true,true,false] rfl rfl (any_of HT_.out (by kernel_rfl)) (fun _ _ _ h => h) (Or.inl ⟨by rfl,?_⟩) ?_ ?_
 rotate_left
 ·intro w'
  go_simp
  with_reducible rfl
 rotate_left
 ·simp only [Act.put,sx_,sy_,sz_,i64_w,i32_w]
  rfl
 refine last_ (i:=14) (N:=none) #[true,true,true,true,true,true,true,true,true,true,true,true,true,true,true] rfl rfl (one_of HT_.out (by kernel_rfl)) (by decide) (fun K hK => ?_)
 have hs16 : w10.cell? ⟨gb191,3,none⟩ = some (.slice A0_3 l0_3.length c0_3):=(bc_ BK191.out 3).trans rfl
 have hfs16:=bf_ BK191.out 3
 have hns16_1:=NB192_191.out
 have hms16_1:=NB191_192.out
 refine skip_ (w1:=?_) (by rfl) rfl ?_ ?_
 rotate_left
 ·go_simp
  rfl
 refine hK.out _ _ ?_
 clear hK K
 refine done_ (done_of HT_.out (by kernel_rfl)) ?_
 have hnb17:=NB191_192.out
 have hnc17:=NB192_191.out
 have hcz18_0 : w10.cell? ⟨gb191,0,none⟩ = some (.int .i64 a0_0):=(bc_ BK191.out 0).trans rfl
 have hcz18_1 : w10.cell? ⟨gb191,1,none⟩ = some (.slice A0_1 l0_1.length c0_1):=(bc_ BK191.out 1).trans rfl
 have hcz18_2 : w10.cell? ⟨gb191,2,none⟩ = some (.slice A0_2 l0_2.length c0_2):=(bc_ BK191.out 2).trans rfl
 have hcz18_3 : w10.cell? ⟨gb191,3,none⟩ = some (.slice A0_3 l0_3.length c0_3):=(bc_ BK191.out 3).trans rfl
 have hfz18_0:=bf_ BK191.out 0
 have hfz18_1:=bf_ BK191.out 1
 have hfz18_2:=bf_ BK191.out 2
 have hfz18_3:=bf_ BK191.out 3
 have hcz19_0 : w10.cell? ⟨gb192,0,none⟩ = some (.int .i64 0):=(bc_ BK192.out 0).trans rfl
 have hcz19_1 : w10.cell? ⟨gb192,1,none⟩ = some (.slice none 0 0):=(bc_ BK192.out 1).trans rfl
 have hcz19_2 : w10.cell? ⟨gb192,2,none⟩ = some (.slice none 0 0):=(bc_ BK192.out 2).trans rfl
 have hcz19_3 : w10.cell? ⟨gb192,3,none⟩ = some (.slice none 0 0):=(bc_ BK192.out 3).trans rfl
 have hfz19_0:=bf_ BK192.out 0
 have hfz19_1:=bf_ BK192.out 1
 have hfz19_2:=bf_ BK192.out 2
 have hfz19_3:=bf_ BK192.out 3
 try go_wp2
 refine bodyPost_ret (results_cell_row rfl _ _ gb192 30 #[.int .i64 a0_0,.slice Ao11 t193.length co11,.slice Ao13 t196.length co13,.slice Ao15 t199.length co15] (0,0) _ rfl (by (with_reducible repeat (first|apply kn_|apply kd_|apply ka_));refine blk_put (cs:=#[.int .i64 a0_0,.slice Ao11 t193.length co11,.slice Ao13 t196.length co13,.slice none 0 0]) ?_ 3 _ rfl;(with_reducible repeat (first|apply kn_|apply kd_|apply ka_));refine blk_put (cs:=#[.int .i64 a0_0,.slice Ao11 t193.length co11,.slice none 0 0,.slice none 0 0]) ?_ 2 _ rfl;(with_reducible repeat (first|apply kn_|apply kd_|apply ka_));refine blk_put (cs:=#[.int .i64 a0_0,.slice none 0 0,.slice none 0 0,.slice none 0 0]) ?_ 1 _ rfl;(with_reducible repeat (first|apply kn_|apply kd_|apply ka_));refine blk_put (cs:=#[.int .i64 0,.slice none 0 0,.slice none 0 0,.slice none 0 0]) ?_ 0 _ rfl;(with_reducible repeat (first|apply kn_|apply kd_|apply ka_));refine blk_far ?_ NB192_191.out _;(with_reducible repeat (first|apply kn_|apply kd_|apply ka_));refine blk_far ?_ NB192_191.out _;(with_reducible repeat (first|apply kn_|apply kd_|apply ka_));refine blk_far ?_ NB192_191.out _;(with_reducible repeat (first|apply kn_|apply kd_|apply ka_));exact BK192.out) Try.underlying30 rfl (by kernel_rfl)) rfl ?_
 exact ⟨_,_,_,qe_,by (with_reducible repeat (first|apply ra_|apply rn_|apply rd_));exact rm_ (rf_ (p:=⟨gb192,3,none⟩) (rf_ (p:=⟨gb192,2,none⟩) (rf_ (p:=⟨gb192,1,none⟩) (rf_ (p:=⟨gb192,0,none⟩) (rf_ (p:=⟨gb191,3,none⟩) (rf_ (p:=⟨gb191,2,none⟩) (rf_ (p:=⟨gb191,1,none⟩) (rt_ (rt_ HO195.out BK191.out (by decide)) BK192.out (by decide)) (fun _ hk => hk.1.2) (.slice Ao11 t193.length co11)) (fun _ hk => hk.1.2) (.slice Ao13 t196.length co13)) (fun _ hk => hk.1.2) (.slice Ao15 t199.length co15)) (λ_ h=>h.2) (.int .i64 a0_0)) (λ_ h=>h.2) (.slice Ao11 t193.length co11)) (λ_ h=>h.2) (.slice Ao13 t196.length co13)) (λ_ h=>h.2) (.slice Ao15 t199.length co15)) (λ_ _=>trivial),by (with_reducible repeat (first|apply ra_|apply rn_|apply rd_));exact rm_ (rf_ (p:=⟨gb192,3,none⟩) (rf_ (p:=⟨gb192,2,none⟩) (rf_ (p:=⟨gb192,1,none⟩) (rf_ (p:=⟨gb192,0,none⟩) (rf_ (p:=⟨gb191,3,none⟩) (rf_ (p:=⟨gb191,2,none⟩) (rf_ (p:=⟨gb191,1,none⟩) (rt_ (rt_ HO198.out BK191.out (by decide)) BK192.out (by decide)) (fun _ hk => hk.1.2) (.slice Ao11 t193.length co11)) (fun _ hk => hk.1.2) (.slice Ao13 t196.length co13)) (fun _ hk => hk.1.2) (.slice Ao15 t199.length co15)) (λ_ h=>h.2) (.int .i64 a0_0)) (λ_ h=>h.2) (.slice Ao11 t193.length co11)) (λ_ h=>h.2) (.slice Ao13 t196.length co13)) (λ_ h=>h.2) (.slice Ao15 t199.length co15)) (fun _ hk => hk.1.1.2),by (with_reducible repeat (first|apply ra_|apply rn_|apply rd_));exact rm_ (rf_ (p:=⟨gb192,3,none⟩) (rf_ (p:=⟨gb192,2,none⟩) (rf_ (p:=⟨gb192,1,none⟩) (rf_ (p:=⟨gb192,0,none⟩) (rf_ (p:=⟨gb191,3,none⟩) (rf_ (p:=⟨gb191,2,none⟩) (rf_ (p:=⟨gb191,1,none⟩) (rt_ (rt_ HO201.out BK191.out (by decide)) BK192.out (by decide)) (fun _ hk => hk.1.2) (.slice Ao11 t193.length co11)) (fun _ hk => hk.1.2) (.slice Ao13 t196.length co13)) (fun _ hk => hk.1.2) (.slice Ao15 t199.length co15)) (λ_ h=>h.2) (.int .i64 a0_0)) (λ_ h=>h.2) (.slice Ao11 t193.length co11)) (λ_ h=>h.2) (.slice Ao13 t196.length co13)) (λ_ h=>h.2) (.slice Ao15 t199.length co15)) (fun _ hk => hk.1.1.2),u3_ HB GE191 GE192⟩

-- LIB beyond
theorem row_block {α : Type} {d : Kd α} {e : TypeId} {w : World} {base g m cap : Nat} {ok : Nat → Prop} {xs : List α} (h : Kd.R d e w base ok (.slice (some ⟨g,0,none⟩) m cap) xs) : ∃ cur : Array Value,w.heap[g]? = some (.cells cur e (0,0)) ∧ cur.size = cap * d.sz ∧ base ≤ g ∧ ok g:=by
  obtain ⟨hok,inner,hown,hr⟩:=h
  rcases hown.2 with ⟨hv,_⟩ | ⟨g',cap',cur,hv,hb,hh,_,hcm,hcs,htake⟩
  · cases hv
  injection hv with ha _ hc
  injection ha with ha
  injection ha with hg
  subst hg;subst hc
  exact ⟨cur,hh,hcs,hb,hok g (by simp [Value.ownBlock])⟩
/-- A store behind a row's last element, in its own block. -/
theorem R_beyond {α : Type} {d : Kd α} {e : TypeId} {w : World} {base g m cap o : Nat} {ok : Nat → Prop} {xs : List α} {u : Value} (h : Kd.R d e w base ok (.slice (some ⟨g,0,none⟩) m cap) xs) (ho : m * d.sz ≤ o) : Kd.R d e (w.setCell ⟨g,o,none⟩ u) base ok (.slice (some ⟨g,0,none⟩) m cap) xs:=by
  have hm:=(Kd.R_reads' h).1
  obtain ⟨hok,inner,hown,hr⟩:=h
  refine ⟨hok,inner,⟨hown.1,?_⟩,hr.imp_ (fun _ _ hp => Kd.M_far hp (fun k hk e => hk.2 (by rw [e];simp [Value.ownBlock])) u)⟩
  rcases hown.2 with ⟨hv,_⟩ | ⟨g',cap',cur,hv,hb,hh,hn,hcm,hcs,htake⟩
  · cases hv
  have hg : g = g':=by injection hv with ha _ hc;injection ha with ha;injection ha
  subst hg
  refine Or.inr ⟨g,cap',cur.setIfInBounds o u,hv,hb,blk_put hh o u rfl,hn,hcm,by rw [Array.size_setIfInBounds];exact hcs,?_⟩
  rw [Array.toList_setIfInBounds,List.take_set_of_le (by rw [← hm];exact ho)]
  exact htake
theorem R_beyonds {α : Type} {d : Kd α} {e : TypeId} {base g m cap : Nat} {ok : Nat → Prop} {xs : List α} (us : List Value) : ∀ (o : Nat) (w : World),Kd.R d e w base ok (.slice (some ⟨g,0,none⟩) m cap) xs → m * d.sz ≤ o → Kd.R d e (w.setCells g o us) base ok (.slice (some ⟨g,0,none⟩) m cap) xs:=by
  induction us with
  | nil => exact fun _ _ h _ => h
  | cons u us ih => exact fun o w h ho => ih (o + 1) _ (R_beyond h ho) (by omega)
/-- 'clear' of one element of three cells. -/
theorem run_clear_three {P : Program} (w : World) (t e ty : TypeId) (z z1 z2 z3 : Value) (ht : P.underlying t = some (.slice e)) (hv : ∀ w, (zeroValue e).run P w = .ok z w) (hz : z.cells = #[z1, z2, z3]) (h1 : z1.oneCell' = true ∧ z2.oneCell' = true ∧ z3.oneCell' = true) (b o c : Nat)
    (hc : ∀ j,j < 3 → (w.cell? ⟨b,o + j,none⟩).isSome = true) (hf : ∀ j,j < 3 → w.frozen? ⟨b,o + j,none⟩ = false) :
    (Builtin.clear_ #[t] ty #[.slice (some ⟨b,o,none⟩) 1 c]).run P w = .ok (.tuple #[]) (w.setCells b o [z1,z2,z3]):=by
  have hzc : (Builtin.zeroCells z.cells 1).toList = [z1,z2,z3]:=by
    rw [hz]
    simp [Builtin.zeroCells]
    rfl
  have hst:=run_storeCells_cells (P:=P) b o [z1,z2,z3] 0 w (by simpa using hc) (by simpa using hf) (by intro v hv';simp only [List.mem_cons,List.not_mem_nil,or_false] at hv';rcases hv' with e | e | e <;> rw [e];exact h1.1;exact h1.2.1;exact h1.2.2)
  simp only [Nat.add_zero] at hst
  simp [Builtin.clear_,run_underlying ht,hv,hzc,hst]
theorem below_cells {w0 : World} {g : Nat} (hg : w0.heap.size ≤ g) (vs : List Value) : ∀ (o : Nat) (W : World),Below w0.heap.size w0 W → Below w0.heap.size w0 (W.setCells g o vs):=by
  induction vs with
  | nil => exact fun _ _ h => h
  | cons v vs ih => exact fun o W h => ih (o + 1) _ (below_set h hg)
theorem kept_cells {w : World} {g : Nat} {S : Nat → Prop} (hg : S g) (vs : List Value) : ∀ (o : Nat) (W : World),Kept w W S → Kept w (W.setCells g o vs) S:=by
  induction vs with
  | nil => exact fun _ _ h => h
  | cons v vs ih => exact fun o W h => ih (o + 1) _ (h.setCell (.inl hg) v)

/-! ### impl_Cable_60: function 60 (by hand) -/
def impl_Cable_60.f (l0 : List (S51)) (a1 : Int) (a2 : Int) : Option (List S51) :=
 if 0 ≤ a1 ∧ a2 = a1 + 1 ∧ a1 < l0.length ∧ l0.length ≤ 1000 then some (l0.eraseIdx a1.toNat) else none
set_option maxHeartbeats 4000000 in
set_option maxRecDepth 100000 in
theorem impl_Cable_60.calls (P0_ : Nat → Prop) (u9000_ : Value) (l0 : List S51) (a1 : Int) (a2 : Int) (r : List S51) (w0 w : World) (hB : Below w0.heap.size w0 w) (ho0 : Kd.R k51 51 w w0.heap.size P0_ u9000_ l0) (h : impl_Cable_60.f l0 a1 a2 = some r) :
  Calls Try.prog 60 #[u9000_,.int .i64 a1,.int .i64 a2] w fun e w' => ∃ v0_ : Value,e = .returned (v0_) ∧ Kd.R k51 51 w' w0.heap.size (fun k_ => (P0_ k_ ∨ w.heap.size ≤ k_)) v0_ r ∧ Below w0.heap.size w0 w' ∧ Kept w w' (fun k_ => P0_ k_):=by
 unfold impl_Cable_60.f at h
 by_cases hc : 0 ≤ a1 ∧ a2 = a1 + 1 ∧ a1 < l0.length ∧ l0.length ≤ 1000
 ·rw [if_pos hc] at h
  obtain rfl:=Option.some.inj h
  clear h
  obtain ⟨h0,rfl,h1,h2⟩:=hc
  obtain ⟨K,hK⟩ : ∃ K : Nat,a1 = (K : Int):=⟨a1.toNat,by omega⟩
  subst hK
  obtain ⟨g,cap,rfl,hg,hgl,_⟩:=Kd.R_form ho0 (by omega)
  obtain ⟨cur,hcur,hcs,_,hPg⟩:=row_block ho0
  have hncap:=(rr_ ho0).2.1
  obtain ⟨M,hM⟩ : ∃ M : Nat,l0.length = M + 1:=⟨l0.length - 1,by omega⟩
  rw [hM] at ho0 h1 h2 hncap ⊢
  have hKM : K < M + 1:=by omega
  have p1 : ((K : Int) = (K : Int) + 1) = False:=eq_false (by omega)
  have p2 : (cap = M) = False:=eq_false (by omega)
  have q1 : K ≤ M + 1:=by omega
  have q2 : K + 1 ≤ M + 1:=by omega
  have q3 : (K : Int) + 1 ≤ (M : Int) + 1:=by omega
  have q4 : K ≤ cap:=by omega
  have q5 : K + 1 ≤ cap:=by omega
  have q6 : M + 1 ≤ cap:=hncap
  have q7 : (K : Int) ≤ (K : Int) + 1:=by omega
  have q8 : 0 ≤ (K : Int) + 1:=by omega
  have q9 : ((K : Int) + 1).toNat = K + 1:=by omega
  have HO:=mk_ ho0
  have HB:=mk_ hB
  have HP:=mk_ hPg
  clear ho0 hB hcur hcs hPg hgl hM h0
  by_cases hck : cap = K + 1
  ·obtain rfl : M = K:=by omega
   subst hck
   have hHO:=rd_ HO.out
   have hHB:=bd_ HB.out
   have hbase:=hHB.size
   go_enter Try.func60,Try.ntmps60
   go_wp2
   go_region_law (refine Kd.R_delete_step k51 (w0:=w0) w0.heap.size (by rfl) (.tmp 22) (.tmp 25) 28 51 rfl Try.underlying28 (by kernel_rfl) (g:=g) (n:=M + 1) (c:=M + 1) (k:=M) (m:=0) (c2:=0) (A:=some ⟨g,0,none⟩) (xs:=l0) (ok:=P0_) (by simp [Act.eval,Act.put]) (by simp [Act.eval,Act.put]) (by simp) (by omega) hHO hKM hHB hbase ?_;intro w1 hR1 hB1 hG1;have HR1:=mk_ hR1;have HB1:=mk_ hB1;have HG1:=mk_ hG1;clear hR1 hB1 hG1)
   all_goals
    clear hHO hHB hbase
    obtain ⟨cu,hcu,hcsz,_⟩:=row_block HR1.out
    have hsz : cu.size = (M + 1) * 3:=hcsz
    have hcl : ∀ ty cc,(Builtin.clear_ #[28] ty #[.slice (some ⟨g,M * 3,none⟩) 1 cc]).run Try.prog w1 = .ok (.tuple #[]) (w1.setCells g (M * 3) [.int .i64 0,.int .i64 0,.int .i64 0]) :=
     fun ty cc => run_clear_three w1 _ _ ty _ _ _ _ Try.underlying28 Try.zeroValue51 rfl ⟨rfl,rfl,rfl⟩ g (M * 3) _ (fun j hj => by rw [bc_ hcu];simp;omega) (fun j hj => bf_ hcu _)
    clear hcu hcsz hsz
    try go_simp
    go_wp2_with (simp only [hcl])
    go_ret
    exact ⟨_,rfl,rm_ (R_beyonds [.int .i64 0,.int .i64 0,.int .i64 0] (M * 3) w1 HR1.out (Nat.le_refl _)) (fun _ h => .inl h),below_cells hg _ _ _ HB1.out,kept_cells HP.out _ _ _ (Kept.of_grown HG1.out (Kept.drew (Kept.refl w _)) (fun k hk => by injection hk with hk;subst hk;exact .inl HP.out))⟩
  ·have hck' : (cap = K + 1) = False:=eq_false hck
   have hHO:=rd_ HO.out
   have hHB:=bd_ HB.out
   have hbase:=hHB.size
   go_enter Try.func60,Try.ntmps60
   go_wp2
   go_region_law (refine Kd.R_delete_step k51 (w0:=w0) w0.heap.size (by rfl) (.tmp 22) (.tmp 25) 28 51 rfl Try.underlying28 (by kernel_rfl) (g:=g) (n:=M + 1) (c:=cap) (k:=K) (m:=M - K) (c2:=cap - (K + 1)) (A:=some ⟨g,(K + 1) * 3,none⟩) (xs:=l0) (ok:=P0_) (by simp [Act.eval,Act.put]) (by simp [Act.eval,Act.put]) (by simp [hck,Addr.add];try rfl) (by omega) hHO hKM hHB hbase ?_;intro w1 hR1 hB1 hG1;have HR1:=mk_ hR1;have HB1:=mk_ hB1;have HG1:=mk_ hG1;clear hR1 hB1 hG1)
   all_goals
    clear hHO hHB hbase
    obtain ⟨cu,hcu,hcsz,_⟩:=row_block HR1.out
    have hsz : cu.size = cap * 3:=hcsz
    have hcl : ∀ ty cc,(Builtin.clear_ #[28] ty #[.slice (some ⟨g,M * 3,none⟩) 1 cc]).run Try.prog w1 = .ok (.tuple #[]) (w1.setCells g (M * 3) [.int .i64 0,.int .i64 0,.int .i64 0]) :=
     fun ty cc => run_clear_three w1 _ _ ty _ _ _ _ Try.underlying28 Try.zeroValue51 rfl ⟨rfl,rfl,rfl⟩ g (M * 3) _ (fun j hj => by rw [bc_ hcu];simp;omega) (fun j hj => bf_ hcu _)
    clear hcu hcsz hsz
    try go_simp
    go_wp2_with (simp only [hcl])
    go_ret
    exact ⟨_,rfl,rm_ (R_beyonds [.int .i64 0,.int .i64 0,.int .i64 0] (M * 3) w1 HR1.out (Nat.le_refl _)) (fun _ h => .inl h),below_cells hg _ _ _ HB1.out,kept_cells HP.out _ _ _ (Kept.of_grown HG1.out (Kept.drew (Kept.refl w _)) (fun k hk => by injection hk with hk;subst hk;exact .inl HP.out))⟩
 ·rw [if_neg hc] at h
  cases h

/-! ### impl_CutCable: function 27 -/
def impl_CutCable.j0 : Nat → Int → Bool → Int → List (S51) → List Int → List Int → Option (Int × (List (S51)) × List Int × List Int × Bool)
 | 0,_,_,_,_,_,_ => none
 | k + 1,x1,x18,z0_,z1_,z2_,z3_ => if x18 = true then (some (0,([] : List (S51)),([] : List Int),([] : List Int),false)) else ((impl_Net_clone.f z0_ z1_ z2_ z3_).bind fun bt206 => ((impl_Cable_60.f bt206.2.1 x1 (wrap64 (x1 + 1))).bind fun t217 => (some (bt206.1,t217,bt206.2.2.1,bt206.2.2.2,true))))
def impl_CutCable.f (k : Nat) (a0_0 : Int) (l0_1 : List (S51)) (l0_2 : List Int) (l0_3 : List Int) (a1 : Int) : Option (Int × (List (S51)) × List Int × List Int × Bool):=(impl_NetValid.f a0_0 l0_1 l0_2 l0_3).bind fun t204 => (if t204 = true then ((impl_within.f a1 0 (wrap64 ((l0_1.length : Int) - 1))).bind fun t205 => (impl_CutCable.j0 k a1 (!t205) a0_0 l0_1 l0_2 l0_3)) else (impl_CutCable.j0 k a1 true a0_0 l0_1 l0_2 l0_3))
theorem impl_CutCable.mono_l : ∀ k,(∀ y0 y1 y2 y3 y4 y5,LeO (impl_CutCable.j0 k y0 y1 y2 y3 y4 y5) (impl_CutCable.j0 (k + 1) y0 y1 y2 y3 y4 y5))
 | 0 => fun _ _ _ _ _ _ r h => by simp [impl_CutCable.j0] at h
 | k + 1 => by
  have ih0:=impl_CutCable.mono_l k
  ·intro y0 y1 y2 y3 y4 y5
   unfold impl_CutCable.j0
   repeat' first
   | (with_reducible exact ih0 _ _ _ _ _ _)
   | (with_reducible exact LeO.refl _)
   | (with_reducible exact LeO.none _)
   | (with_reducible refine LeO.ite ?_ ?_)
   | (with_reducible refine LeO.bind ?_ (fun _ => ?_))
   | exact ih0 _ _ _ _ _ _
   | exact LeO.none _
   | refine LeO.ite ?_ ?_
   | refine LeO.bind ?_ (fun _ => ?_)
theorem impl_CutCable.mono : ∀ a0 a1 a2 a3 a4 k,LeO (impl_CutCable.f k a0 a1 a2 a3 a4) (impl_CutCable.f (k + 1) a0 a1 a2 a3 a4):=by
 intro a0 a1 a2 a3 a4 k
 have ih0:=impl_CutCable.mono_l k
 unfold impl_CutCable.f
 repeat' first
   | (with_reducible exact ih0 _ _ _ _ _ _)
   | (with_reducible exact LeO.refl _)
   | (with_reducible exact LeO.none _)
   | (with_reducible refine LeO.ite ?_ ?_)
   | (with_reducible refine LeO.bind ?_ (fun _ => ?_))
   | exact ih0 _ _ _ _ _ _
   | exact LeO.none _
   | refine LeO.ite ?_ ?_
   | refine LeO.bind ?_ (fun _ => ?_)
set_option maxHeartbeats 8000000 in
set_option maxRecDepth 100000 in
theorem impl_CutCable.calls (k : Nat) (a0_0 : Int) (A0_1 : Option Addr) (c0_1 : Nat) (l0_1 : List (S51)) (A0_2 : Option Addr) (c0_2 : Nat) (l0_2 : List Int) (A0_3 : Option Addr) (c0_3 : Nat) (l0_3 : List Int) (a1 : Int) (r1 : Int) (r2 : List (S51)) (r3 : List Int) (r4 : List Int) (r5 : Bool) (w : World) (hr0_1 : Kd.C k51 w A0_1 l0_1.length l0_1) (hc0_1 : l0_1.length ≤ c0_1) (hr0_2 : Kd.C (Kd.int .i64) w A0_2 l0_2.length l0_2) (hc0_2 : l0_2.length ≤ c0_2) (hr0_3 : Kd.C (Kd.int .i64) w A0_3 l0_3.length l0_3) (hc0_3 : l0_3.length ≤ c0_3) (h : impl_CutCable.f k a0_0 l0_1 l0_2 l0_3 a1 = some (r1,r2,r3,r4,r5)) :
  Calls Try.prog 27 #[.agg #[.int .i64 a0_0,.slice A0_1 l0_1.length c0_1,.slice A0_2 l0_2.length c0_2,.slice A0_3 l0_3.length c0_3],.int .i64 a1] w fun e w' => ∃ v1_ v2_ v3_ : Value,e = .returned (.tuple #[.agg #[.int .i64 r1,v1_,v2_,v3_],.bool r5]) ∧ Kd.R k51 51 w' w.heap.size (fun _ => True) v1_ r2 ∧ Kd.R (Kd.int .i64) 3 w' w.heap.size (fun k_ => some k_ ≠ (v3_ : Value).ownBlock) v2_ r3 ∧ Kd.R (Kd.int .i64) 3 w' w.heap.size (fun k_ => some k_ ≠ (v2_ : Value).ownBlock) v3_ r4 ∧ Below w.heap.size w w':=by
 have hu30:=Try.underlying30
 have HR0_1:=mk_ hr0_1
 have HC0_1:=mk_ hc0_1
 clear hr0_1 hc0_1
 have HR0_2:=mk_ hr0_2
 have HC0_2:=mk_ hc0_2
 clear hr0_2 hc0_2
 have HR0_3:=mk_ hr0_3
 have HC0_3:=mk_ hc0_3
 clear hr0_3 hc0_3
 have HB:=mk_ (Below.refl w.heap.size w)
 have H : ((impl_NetValid.f a0_0 l0_1 l0_2 l0_3).bind fun t204 => (if t204 = true then ((impl_within.f a1 0 (wrap64 ((l0_1.length : Int) - 1))).bind fun t205 => (impl_CutCable.j0 k a1 (!t205) a0_0 l0_1 l0_2 l0_3)) else (impl_CutCable.j0 k a1 true a0_0 l0_1 l0_2 l0_3))) = some (r1,r2,r3,r4,r5):=h
 clear h
 have HC3:=mk_ H
 clear H
 go_enter Try.func27,Try.ntmps27
 go_upto_region 1 with (first|((with_reducible refine gate_dst (N:=2) rfl ?_);(try (refine gate_guard (by rfl) ?_;dsimp only));refine box_event ?hg (N:=2) ?hd (cs:=#[.int .i64 a0_0,.slice A0_1 l0_1.length c0_1,.slice A0_2 l0_2.length c0_2,.slice A0_3 l0_3.length c0_3]) (t:=30) ?hr ?_;(case hd => rfl);(case hg => rfl);(case hr => first|(go_simp;done)|(go_simp;rfl));intro gb202 hg w4 hbox hb;have n0_:=mk_ (st_ (qb_ HB) hb);have n1_:=mk_ (hbox);have n2_:=mk_ ((by rw [hg];exact (bz_ (qb_ HB)) : w.heap.size ≤ gb202));have n3_:=mk_ ((by rw [hg];exact (bz_ (qb_ HB)) : w.heap.size ≤ gb202));clear HB;have HB:=n0_;have BK202:=n1_;have GW202:=n2_;have GE202:=n3_;clear n0_ n1_ n2_ n3_ hb hbox hg)|((with_reducible refine gate_dst (N:=4) rfl ?_);(try (refine gate_guard (by rfl) ?_;dsimp only));refine box_event ?hg (N:=4) ?hd (cs:=#[.int .i64 0,.slice none 0 0,.slice none 0 0,.slice none 0 0]) (t:=30) ?hr ?_;(case hd => rfl);(case hg => rfl);(case hr => first|(go_simp;done)|(go_simp;rfl));intro gb203 hg w5 hbox hb;have n0_:=mk_ (blk_below (g:=gb202) (o:=.cells #[.int .i64 a0_0,.slice A0_1 l0_1.length c0_1,.slice A0_2 l0_2.length c0_2,.slice A0_3 l0_3.length c0_3] 30 (0,0)) (qk_ BK202) hb);have n1_:=mk_ (st_ (qc_ HB GE202) hb);have n2_:=mk_ (hbox);have n3_:=mk_ ((by rw [hg];exact (bz_ (qc_ HB GE202)) : w.heap.size ≤ gb203));have n4_:=mk_ ((by rw [hg];exact (bz_ (qc_ HB GE202)) : w.heap.size ≤ gb203));have n5_:=mk_ ((by rw [hg];exact Nat.ne_of_lt (blk_lt (g:=gb202) (o:=.cells #[.int .i64 a0_0,.slice A0_1 l0_1.length c0_1,.slice A0_2 l0_2.length c0_2,.slice A0_3 l0_3.length c0_3] 30 (0,0)) (qk_ BK202)) : gb202 ≠ gb203));have n6_:=mk_ ((by rw [hg];exact Nat.ne_of_gt (blk_lt (g:=gb202) (o:=.cells #[.int .i64 a0_0,.slice A0_1 l0_1.length c0_1,.slice A0_2 l0_2.length c0_2,.slice A0_3 l0_3.length c0_3] 30 (0,0)) (qk_ BK202)) : gb203 ≠ gb202));clear BK202 HB;have BK202:=n0_;have HB:=n1_;have BK203:=n2_;have GW203:=n3_;have GE203:=n4_;have NB202_203:=n5_;have NB203_202:=n6_;clear n0_ n1_ n2_ n3_ n4_ n5_ n6_ hb hbox hg))
 (try simp only [Act.put,sx_,sy_,sz_])
 go_cut [18] (fun v18 wc => ∃ (kq : Nat) (x18_2 : Bool),v18 = .bool x18_2 ∧ Aside0 (impl_CutCable.j0 kq a1 x18_2 a0_0 l0_1 l0_2 l0_3 = some (r1,r2,r3,r4,r5)) ∧ Aside0 (kq ≤ k) ∧ Aside0 (wc.heap[gb202]? = some (.cells #[.int .i64 a0_0,(.slice A0_1 l0_1.length c0_1),(.slice A0_2 l0_2.length c0_2),(.slice A0_3 l0_3.length c0_3)] 30 (0,0))) ∧ Aside0 (wc.heap[gb203]? = some (.cells #[.int .i64 0,(.slice none 0 0),(.slice none 0 0),(.slice none 0 0)] 30 (0,0))) ∧ Aside0 (Below w.heap.size w wc))
 case first =>
  have H:=HC3.out
  clear HC3
  replace H:=Option.bind_eq_some_iff.mp H
  obtain ⟨t204,A60,H⟩:=H
  replace H : (if t204 = true then ((impl_within.f a1 0 (wrap64 ((l0_1.length : Int) - 1))).bind fun t205 => (impl_CutCable.j0 k a1 (!t205) a0_0 l0_1 l0_2 l0_3)) else (impl_CutCable.j0 k a1 true a0_0 l0_1 l0_2 l0_3)) = some (r1,r2,r3,r4,r5):=H
  have A6:=mk_ A60
  clear A60
  by_cases c7 : t204 = true
  ·subst c7
   have H1 : ((impl_within.f a1 0 (wrap64 ((l0_1.length : Int) - 1))).bind fun t205 => (impl_CutCable.j0 k a1 (!t205) a0_0 l0_1 l0_2 l0_3)) = some (r1,r2,r3,r4,r5):=by rw [if_pos rfl] at H;exact H
   clear H
   have H:=H1
   clear H1
   replace H:=Option.bind_eq_some_iff.mp H
   obtain ⟨t205,A80,H⟩:=H
   replace H : (impl_CutCable.j0 k a1 (!t205) a0_0 l0_1 l0_2 l0_3) = some (r1,r2,r3,r4,r5):=H
   have A8:=mk_ A80
   clear A80
   have H':=mk_ H
   clear H
   have hnb9:=NB202_203.out
   have hnc9:=NB203_202.out
   have hcz10_0 : w5.cell? ⟨gb202,0,none⟩ = some (.int .i64 a0_0):=(bc_ BK202.out 0).trans rfl
   have hcz10_1 : w5.cell? ⟨gb202,1,none⟩ = some (.slice A0_1 l0_1.length c0_1):=(bc_ BK202.out 1).trans rfl
   have hcz10_2 : w5.cell? ⟨gb202,2,none⟩ = some (.slice A0_2 l0_2.length c0_2):=(bc_ BK202.out 2).trans rfl
   have hcz10_3 : w5.cell? ⟨gb202,3,none⟩ = some (.slice A0_3 l0_3.length c0_3):=(bc_ BK202.out 3).trans rfl
   have hfz10_0:=bf_ BK202.out 0
   have hfz10_1:=bf_ BK202.out 1
   have hfz10_2:=bf_ BK202.out 2
   have hfz10_3:=bf_ BK202.out 3
   go_wp2_with (first|((with_reducible refine gate_callee (f:=15) rfl ?_);refine goesL_ (some 8) rfl rfl Try.func15 (by kernel_rfl) rfl #[.agg #[.int .i64 a0_0,.slice A0_1 l0_1.length c0_1,.slice A0_2 l0_2.length c0_2,.slice A0_3 l0_3.length c0_3]] rfl qm_ ?_;(with_reducible refine (impl_NetValid.calls a0_0 _ _ l0_1 _ _ l0_2 _ _ l0_3 true _ ?side1 ?side2 ?side3 ?side4 ?side5 ?side6 A6.out).mono ?_);(case side1 => exact qn_ HR0_1 HB);(case side2 => exact HC0_1.out);(case side3 => exact qn_ HR0_2 HB);(case side4 => exact HC0_2.out);(case side5 => exact qn_ HR0_3 HB);(case side6 => exact HC0_3.out);rintro e w11 ⟨rfl,hb⟩;refine ⟨_,rfl,?_⟩;have n0_:=mk_ (blk_below (g:=gb202) (o:=.cells #[.int .i64 a0_0,.slice A0_1 l0_1.length c0_1,.slice A0_2 l0_2.length c0_2,.slice A0_3 l0_3.length c0_3] 30 (0,0)) (qk_ BK202) hb);have n1_:=mk_ (blk_below (g:=gb203) (o:=.cells #[.int .i64 0,.slice none 0 0,.slice none 0 0,.slice none 0 0] 30 (0,0)) (qk_ BK203) hb);have n2_:=mk_ (st_ (qd_ HB GE202 GE203) hb);clear BK202 BK203 HB;have BK202:=n0_;have BK203:=n1_;have HB:=n2_;clear n0_ n1_ n2_;(try clear hb);(try clear hb2);(try clear hk);(try clear hi);have hcz12_0 : w11.cell? ⟨gb202,0,none⟩ = some (.int .i64 a0_0):=(bc_ BK202.out 0).trans rfl;have hcz12_1 : w11.cell? ⟨gb202,1,none⟩ = some (.slice A0_1 l0_1.length c0_1):=(bc_ BK202.out 1).trans rfl;have hcz12_2 : w11.cell? ⟨gb202,2,none⟩ = some (.slice A0_2 l0_2.length c0_2):=(bc_ BK202.out 2).trans rfl;have hcz12_3 : w11.cell? ⟨gb202,3,none⟩ = some (.slice A0_3 l0_3.length c0_3):=(bc_ BK202.out 3).trans rfl;have hfz12_0:=bf_ BK202.out 0;have hfz12_1:=bf_ BK202.out 1;have hfz12_2:=bf_ BK202.out 2;have hfz12_3:=bf_ BK202.out 3)|(go_at_call 48;(with_reducible refine (impl_within.calls a1 0 (wrap64 ((l0_1.length : Int) - 1)) t205 _ A8.out).mono ?_);rintro e w' ⟨rfl,⟨nd,rfl⟩⟩))
   go_meet
   case rel => exact ⟨_,(!t205),qf_,H',⟨by first|omega|exact Nat.le_refl _⟩,⟨qk_ BK202⟩,⟨qk_ BK203⟩,⟨u3_ HB GE202 GE203⟩⟩
  ·replace c7:=Bool.eq_false_iff.mpr c7
   subst c7
   have H1 : (impl_CutCable.j0 k a1 true a0_0 l0_1 l0_2 l0_3) = some (r1,r2,r3,r4,r5):=by rw [if_neg (show ¬ (false = true) by decide)] at H;exact H
   clear H
   have H:=H1
   clear H1
   have H':=mk_ H
   clear H
   have hnb13:=NB202_203.out
   have hnc13:=NB203_202.out
   have hcz14_0 : w5.cell? ⟨gb202,0,none⟩ = some (.int .i64 a0_0):=(bc_ BK202.out 0).trans rfl
   have hcz14_1 : w5.cell? ⟨gb202,1,none⟩ = some (.slice A0_1 l0_1.length c0_1):=(bc_ BK202.out 1).trans rfl
   have hcz14_2 : w5.cell? ⟨gb202,2,none⟩ = some (.slice A0_2 l0_2.length c0_2):=(bc_ BK202.out 2).trans rfl
   have hcz14_3 : w5.cell? ⟨gb202,3,none⟩ = some (.slice A0_3 l0_3.length c0_3):=(bc_ BK202.out 3).trans rfl
   have hfz14_0:=bf_ BK202.out 0
   have hfz14_1:=bf_ BK202.out 1
   have hfz14_2:=bf_ BK202.out 2
   have hfz14_3:=bf_ BK202.out 3
   go_wp2_with (first|((with_reducible refine gate_callee (f:=15) rfl ?_);refine goesL_ (some 8) rfl rfl Try.func15 (by kernel_rfl) rfl #[.agg #[.int .i64 a0_0,.slice A0_1 l0_1.length c0_1,.slice A0_2 l0_2.length c0_2,.slice A0_3 l0_3.length c0_3]] rfl qm_ ?_;(with_reducible refine (impl_NetValid.calls a0_0 _ _ l0_1 _ _ l0_2 _ _ l0_3 false _ ?side1 ?side2 ?side3 ?side4 ?side5 ?side6 A6.out).mono ?_);(case side1 => exact qn_ HR0_1 HB);(case side2 => exact HC0_1.out);(case side3 => exact qn_ HR0_2 HB);(case side4 => exact HC0_2.out);(case side5 => exact qn_ HR0_3 HB);(case side6 => exact HC0_3.out);rintro e w15 ⟨rfl,hb⟩;refine ⟨_,rfl,?_⟩;have n0_:=mk_ (blk_below (g:=gb202) (o:=.cells #[.int .i64 a0_0,.slice A0_1 l0_1.length c0_1,.slice A0_2 l0_2.length c0_2,.slice A0_3 l0_3.length c0_3] 30 (0,0)) (qk_ BK202) hb);have n1_:=mk_ (blk_below (g:=gb203) (o:=.cells #[.int .i64 0,.slice none 0 0,.slice none 0 0,.slice none 0 0] 30 (0,0)) (qk_ BK203) hb);have n2_:=mk_ (st_ (qd_ HB GE202 GE203) hb);clear BK202 BK203 HB;have BK202:=n0_;have BK203:=n1_;have HB:=n2_;clear n0_ n1_ n2_;(try clear hb);(try clear hb2);(try clear hk);(try clear hi)))
   go_meet
   case rel => exact ⟨_,(true),qf_,H',⟨by first|omega|exact Nat.le_refl _⟩,⟨qk_ BK202⟩,⟨qk_ BK203⟩,⟨u3_ HB GE202 GE203⟩⟩
 case rest =>
  clear HC3
  try clear c1
  try clear c2
  try clear p2
  try clear p6
  try clear c7
  try clear c9
  try clear c13
  try clear c15
  try clear hcz10_0
  try clear hcz10_1
  try clear hcz10_2
  try clear hcz10_3
  try clear hcz12_0
  try clear hcz12_1
  try clear hcz12_2
  try clear hcz12_3
  try clear hcz14_0
  try clear hcz14_1
  try clear hcz14_2
  try clear hcz14_3
  try clear hfz10_0
  try clear hfz10_1
  try clear hfz10_2
  try clear hfz10_3
  try clear hfz12_0
  try clear hfz12_1
  try clear hfz12_2
  try clear hfz12_3
  try clear hfz14_0
  try clear hfz14_1
  try clear hfz14_2
  try clear hfz14_3
  obtain ⟨kq,x18_2,rfl,HA,HJ2,BK202,BK203,HB⟩:=hcut
  cases kq with
  | zero => exact absurd HA.out (by simp [impl_CutCable.j0])
  | succ kj2 =>
   have H:=HA.out
   clear HA
   simp only [impl_CutCable.j0] at H
   by_cases c16 : x18_2 = true
   ·subst c16
    have H1 : (some (0,([] : List (S51)),([] : List Int),([] : List Int),false)) = some (r1,r2,r3,r4,r5):=by rw [if_pos rfl] at H;exact H
    clear H
    have H:=H1
    clear H1
    simp only [Option.some.injEq,Prod.mk.injEq] at H
    obtain ⟨rfl,rfl,rfl,rfl,rfl⟩:=H
    have hnb17:=NB203_202.out
    have hnc17:=NB202_203.out
    have hcz18_0 : wc.cell? ⟨gb203,0,none⟩ = some (.int .i64 0):=(bc_ BK203.out 0).trans rfl
    have hcz18_1 : wc.cell? ⟨gb203,1,none⟩ = some (.slice none 0 0):=(bc_ BK203.out 1).trans rfl
    have hcz18_2 : wc.cell? ⟨gb203,2,none⟩ = some (.slice none 0 0):=(bc_ BK203.out 2).trans rfl
    have hcz18_3 : wc.cell? ⟨gb203,3,none⟩ = some (.slice none 0 0):=(bc_ BK203.out 3).trans rfl
    have hfz18_0:=bf_ BK203.out 0
    have hfz18_1:=bf_ BK203.out 1
    have hfz18_2:=bf_ BK203.out 2
    have hfz18_3:=bf_ BK203.out 3
    go_wp2
    refine bodyPost_ret (results_ct rfl _ _ gb203 30 #[.int .i64 0,.slice none 0 0,.slice none 0 0,.slice none 0 0] (0,0) _ rfl (by (with_reducible repeat (first|apply kn_|apply kd_|apply ka_));refine blk_put (cs:=#[.int .i64 0,.slice none 0 0,.slice none 0 0,.slice none 0 0]) ?_ 3 _ rfl;(with_reducible repeat (first|apply kn_|apply kd_|apply ka_));refine blk_put (cs:=#[.int .i64 0,.slice none 0 0,.slice none 0 0,.slice none 0 0]) ?_ 2 _ rfl;(with_reducible repeat (first|apply kn_|apply kd_|apply ka_));refine blk_put (cs:=#[.int .i64 0,.slice none 0 0,.slice none 0 0,.slice none 0 0]) ?_ 1 _ rfl;(with_reducible repeat (first|apply kn_|apply kd_|apply ka_));refine blk_put (cs:=#[.int .i64 0,.slice none 0 0,.slice none 0 0,.slice none 0 0]) ?_ 0 _ rfl;(with_reducible repeat (first|apply kn_|apply kd_|apply ka_));exact BK203.out) Try.underlying30 rfl (by kernel_rfl)) rfl ?_
    exact ⟨_,_,_,qe_,by first|exact Kd.R_nil _ _ _ _ _|exact Kd.N_nil _ _ _ _ _|exact Kd.V_nil _ _ _ _ _|exact Kd.Q_nil _ _ _ _ _|exact Kd.S_nil _ _ _ _ _,by first|exact Kd.R_nil _ _ _ _ _|exact Kd.N_nil _ _ _ _ _|exact Kd.V_nil _ _ _ _ _|exact Kd.Q_nil _ _ _ _ _|exact Kd.S_nil _ _ _ _ _,by first|exact Kd.R_nil _ _ _ _ _|exact Kd.N_nil _ _ _ _ _|exact Kd.V_nil _ _ _ _ _|exact Kd.Q_nil _ _ _ _ _|exact Kd.S_nil _ _ _ _ _,u3_ HB GE202 GE203⟩
   ·replace c16:=Bool.eq_false_iff.mpr c16
    subst c16
    have H1 : ((impl_Net_clone.f a0_0 l0_1 l0_2 l0_3).bind fun bt206 => ((impl_Cable_60.f bt206.2.1 a1 (wrap64 (a1 + 1))).bind fun t217 => (some (bt206.1,t217,bt206.2.2.1,bt206.2.2.2,true)))) = some (r1,r2,r3,r4,r5):=by rw [if_neg (show ¬ (false = true) by decide)] at H;exact H
    clear H
    have H:=H1
    clear H1
    replace H:=Option.bind_eq_some_iff.mp H
    obtain ⟨⟨t206,t207,t210,t213⟩,A190,H⟩:=H
    replace H : ((impl_Cable_60.f t207 a1 (wrap64 (a1 + 1))).bind fun t217 => (some (t206,t217,t210,t213,true))) = some (r1,r2,r3,r4,r5):=H
    have A19:=mk_ A190
    clear A190
    replace H:=Option.bind_eq_some_iff.mp H
    obtain ⟨t217,A200,H⟩:=H
    replace H : (some (t206,t217,t210,t213,true)) = some (r1,r2,r3,r4,r5):=H
    have A20:=mk_ A200
    clear A200
    simp only [Option.some.injEq,Prod.mk.injEq] at H
    obtain ⟨rfl,rfl,rfl,rfl,rfl⟩:=H
    have hnb21:=NB202_203.out
    have hnc21:=NB203_202.out
    have hcz22_0 : wc.cell? ⟨gb202,0,none⟩ = some (.int .i64 a0_0):=(bc_ BK202.out 0).trans rfl
    have hcz22_1 : wc.cell? ⟨gb202,1,none⟩ = some (.slice A0_1 l0_1.length c0_1):=(bc_ BK202.out 1).trans rfl
    have hcz22_2 : wc.cell? ⟨gb202,2,none⟩ = some (.slice A0_2 l0_2.length c0_2):=(bc_ BK202.out 2).trans rfl
    have hcz22_3 : wc.cell? ⟨gb202,3,none⟩ = some (.slice A0_3 l0_3.length c0_3):=(bc_ BK202.out 3).trans rfl
    have hfz22_0:=bf_ BK202.out 0
    have hfz22_1:=bf_ BK202.out 1
    have hfz22_2:=bf_ BK202.out 2
    have hfz22_3:=bf_ BK202.out 3
    go_wp2_with (first|((with_reducible refine gate_callee (f:=59) rfl ?_);refine goesL_ (some 21) rfl rfl Try.func59 (by kernel_rfl) rfl #[.agg #[.int .i64 a0_0,.slice A0_1 l0_1.length c0_1,.slice A0_2 l0_2.length c0_2,.slice A0_3 l0_3.length c0_3]] rfl qm_ ?_;(with_reducible refine (impl_Net_clone.calls a0_0 _ _ l0_1 _ _ l0_2 _ _ l0_3 t206 t207 t210 t213 _ ?side1 ?side2 ?side3 ?side4 ?side5 ?side6 A19.out).mono ?_);(case side1 => exact qn_ HR0_1 HB);(case side2 => exact HC0_1.out);(case side3 => exact qn_ HR0_2 HB);(case side4 => exact HC0_2.out);(case side5 => exact qn_ HR0_3 HB);(case side6 => exact HC0_3.out);rintro e w23 ⟨v208,v211,v214,rfl,ho0,ho1,ho2,hb⟩;refine ⟨_,rfl,?_⟩;have n0_:=mk_ (Kd.R_lower ho0 (bz_ (qd_ HB GE202 GE203)));have n1_:=mk_ (Kd.R_lower ho1 (bz_ (qd_ HB GE202 GE203)));have n2_:=mk_ (Kd.R_lower ho2 (bz_ (qd_ HB GE202 GE203)));have n3_:=mk_ (blk_below (g:=gb202) (o:=.cells #[.int .i64 a0_0,.slice A0_1 l0_1.length c0_1,.slice A0_2 l0_2.length c0_2,.slice A0_3 l0_3.length c0_3] 30 (0,0)) (qk_ BK202) hb);have n4_:=mk_ (blk_below (g:=gb203) (o:=.cells #[.int .i64 0,.slice none 0 0,.slice none 0 0,.slice none 0 0] 30 (0,0)) (qk_ BK203) hb);have n5_:=mk_ (st_ (qd_ HB GE202 GE203) hb);clear BK202 BK203 HB;have HO209:=n0_;have HO212:=n1_;have HO215:=n2_;have BK202:=n3_;have BK203:=n4_;have HB:=n5_;clear n0_ n1_ n2_ n3_ n4_ n5_;(try clear hb);(try clear hb2);(try clear hk);(try clear hi);(try clear ho0);(try clear ho1);(try clear ho2))|((with_reducible refine gate_dst (N:=6) rfl ?_);(try (refine gate_guard (by rfl) ?_;dsimp only));refine box_event ?hg (N:=6) ?hd (cs:=#[.int .i64 0,.slice none 0 0,.slice none 0 0,.slice none 0 0]) (t:=30) ?hr ?_;(case hd => rfl);(case hg => rfl);(case hr => first|(go_simp;done)|(go_simp;rfl));intro gb216 hg w24 hbox hb;have n0_:=mk_ (rb_ (qr_ HO209) hb);have n1_:=mk_ (rb_ (qr_ HO212) hb);have n2_:=mk_ (rb_ (qr_ HO215) hb);have n3_:=mk_ (blk_below (g:=gb202) (o:=.cells #[.int .i64 a0_0,.slice A0_1 l0_1.length c0_1,.slice A0_2 l0_2.length c0_2,.slice A0_3 l0_3.length c0_3] 30 (0,0)) (qk_ BK202) hb);have n4_:=mk_ (blk_below (g:=gb203) (o:=.cells #[.int .i64 0,.slice none 0 0,.slice none 0 0,.slice none 0 0] 30 (0,0)) (qk_ BK203) hb);have n5_:=mk_ (st_ (qd_ HB GE202 GE203) hb);have n6_:=mk_ (hbox);have n7_:=mk_ ((by rw [hg];exact (bz_ (qd_ HB GE202 GE203)) : w.heap.size ≤ gb216));have n8_:=mk_ ((by rw [hg];exact (bz_ (qd_ HB GE202 GE203)) : w.heap.size ≤ gb216));have n9_:=mk_ ((by rw [hg];exact Nat.ne_of_lt (blk_lt (g:=gb202) (o:=.cells #[.int .i64 a0_0,.slice A0_1 l0_1.length c0_1,.slice A0_2 l0_2.length c0_2,.slice A0_3 l0_3.length c0_3] 30 (0,0)) (qk_ BK202)) : gb202 ≠ gb216));have n10_:=mk_ ((by rw [hg];exact Nat.ne_of_gt (blk_lt (g:=gb202) (o:=.cells #[.int .i64 a0_0,.slice A0_1 l0_1.length c0_1,.slice A0_2 l0_2.length c0_2,.slice A0_3 l0_3.length c0_3] 30 (0,0)) (qk_ BK202)) : gb216 ≠ gb202));have n11_:=mk_ ((by rw [hg];exact Nat.ne_of_lt (blk_lt (g:=gb203) (o:=.cells #[.int .i64 0,.slice none 0 0,.slice none 0 0,.slice none 0 0] 30 (0,0)) (qk_ BK203)) : gb203 ≠ gb216));have n12_:=mk_ ((by rw [hg];exact Nat.ne_of_gt (blk_lt (g:=gb203) (o:=.cells #[.int .i64 0,.slice none 0 0,.slice none 0 0,.slice none 0 0] 30 (0,0)) (qk_ BK203)) : gb216 ≠ gb203));clear HO209 HO212 HO215 BK202 BK203 HB;have HO209:=n0_;have HO212:=n1_;have HO215:=n2_;have BK202:=n3_;have BK203:=n4_;have HB:=n5_;have BK216:=n6_;have GW216:=n7_;have GE216:=n8_;have NB202_216:=n9_;have NB216_202:=n10_;have NB203_216:=n11_;have NB216_203:=n12_;clear n0_ n1_ n2_ n3_ n4_ n5_ n6_ n7_ n8_ n9_ n10_ n11_ n12_ hb hbox hg;have hnb25:=NB216_202.out;have hnc25:=NB202_216.out;have hnb26:=NB216_203.out;have hnc26:=NB203_216.out;have hcz27_0 : w24.cell? ⟨gb216,0,none⟩ = some (.int .i64 0):=(bc_ BK216.out 0).trans rfl;have hcz27_1 : w24.cell? ⟨gb216,1,none⟩ = some (.slice none 0 0):=(bc_ BK216.out 1).trans rfl;have hcz27_2 : w24.cell? ⟨gb216,2,none⟩ = some (.slice none 0 0):=(bc_ BK216.out 2).trans rfl;have hcz27_3 : w24.cell? ⟨gb216,3,none⟩ = some (.slice none 0 0):=(bc_ BK216.out 3).trans rfl;have hfz27_0:=bf_ BK216.out 0;have hfz27_1:=bf_ BK216.out 1;have hfz27_2:=bf_ BK216.out 2;have hfz27_3:=bf_ BK216.out 3;obtain ⟨Ao28,co28,eo28⟩:=Kd.R_slice HO209.out;subst eo28;obtain ⟨Ao29,co29,eo29⟩:=Kd.R_slice HO212.out;subst eo29;obtain ⟨Ao30,co30,eo30⟩:=Kd.R_slice HO215.out;subst eo30)|((with_reducible refine gate_store (t:=30) (p:=6) rfl ?_);refine store_event (t:=30) (p:=6) (v:=?vo_w31) (w1:=((((w24.setCell ⟨gb216,0,none⟩ (.int .i64 t206)).setCell ⟨gb216,1,none⟩ (.slice Ao28 t207.length co28)).setCell ⟨gb216,2,none⟩ (.slice Ao29 t210.length co29)).setCell ⟨gb216,3,none⟩ (.slice Ao30 t213.length co30))) ?hg ?ho ?hn ?hr ?_;(case ho => rfl);(case hg => rfl);(case hn => rfl);(case hr => first|(go_simp;done)|(go_simp;rfl));intro w31 hw;have n0_ : Aside0 (Kd.R k51 51 w31 w.heap.size (fun _ => True) (.slice Ao28 t207.length co28) t207):=⟨(by rw [hw];exact (by (with_reducible repeat (first|apply ra_|apply rn_|apply rd_));exact rm_ (rf_ (p:=⟨gb216,3,none⟩) (rf_ (p:=⟨gb216,2,none⟩) (rf_ (p:=⟨gb216,1,none⟩) (rf_ (p:=⟨gb216,0,none⟩) (rt_ HO209.out BK216.out (by decide)) (λ_ h=>h.2) (.int .i64 t206)) (λ_ h=>h.2) (.slice Ao28 t207.length co28)) (λ_ h=>h.2) (.slice Ao29 t210.length co29)) (λ_ h=>h.2) (.slice Ao30 t213.length co30)) (λ_ _=>trivial)))⟩;have n1_ : Aside0 (Kd.R (Kd.int .i64) 3 w31 w.heap.size (fun k_ => some k_ ≠ (.slice Ao30 t213.length co30 : Value).ownBlock) (.slice Ao29 t210.length co29) t210):=⟨(by rw [hw];exact (by (with_reducible repeat (first|apply ra_|apply rn_|apply rd_));exact rm_ (rf_ (p:=⟨gb216,3,none⟩) (rf_ (p:=⟨gb216,2,none⟩) (rf_ (p:=⟨gb216,1,none⟩) (rf_ (p:=⟨gb216,0,none⟩) (rt_ HO212.out BK216.out (by decide)) (λ_ h=>h.2) (.int .i64 t206)) (λ_ h=>h.2) (.slice Ao28 t207.length co28)) (λ_ h=>h.2) (.slice Ao29 t210.length co29)) (λ_ h=>h.2) (.slice Ao30 t213.length co30)) (fun _ hk => hk.1)))⟩;have n2_ : Aside0 (Kd.R (Kd.int .i64) 3 w31 w.heap.size (fun k_ => some k_ ≠ (.slice Ao29 t210.length co29 : Value).ownBlock) (.slice Ao30 t213.length co30) t213):=⟨(by rw [hw];exact (by (with_reducible repeat (first|apply ra_|apply rn_|apply rd_));exact rm_ (rf_ (p:=⟨gb216,3,none⟩) (rf_ (p:=⟨gb216,2,none⟩) (rf_ (p:=⟨gb216,1,none⟩) (rf_ (p:=⟨gb216,0,none⟩) (rt_ HO215.out BK216.out (by decide)) (λ_ h=>h.2) (.int .i64 t206)) (λ_ h=>h.2) (.slice Ao28 t207.length co28)) (λ_ h=>h.2) (.slice Ao29 t210.length co29)) (λ_ h=>h.2) (.slice Ao30 t213.length co30)) (fun _ hk => hk.1)))⟩;have n3_ : Aside0 (w31.heap[gb202]? = some (.cells #[.int .i64 a0_0,.slice A0_1 l0_1.length c0_1,.slice A0_2 l0_2.length c0_2,.slice A0_3 l0_3.length c0_3] 30 (0,0))):=⟨(by rw [hw];exact (by (with_reducible repeat (first|apply kn_|apply kd_|apply ka_));refine blk_far ?_ NB202_216.out _;(with_reducible repeat (first|apply kn_|apply kd_|apply ka_));refine blk_far ?_ NB202_216.out _;(with_reducible repeat (first|apply kn_|apply kd_|apply ka_));refine blk_far ?_ NB202_216.out _;(with_reducible repeat (first|apply kn_|apply kd_|apply ka_));refine blk_far ?_ NB202_216.out _;(with_reducible repeat (first|apply kn_|apply kd_|apply ka_));exact BK202.out))⟩;have n4_ : Aside0 (w31.heap[gb203]? = some (.cells #[.int .i64 0,.slice none 0 0,.slice none 0 0,.slice none 0 0] 30 (0,0))):=⟨(by rw [hw];exact (by (with_reducible repeat (first|apply kn_|apply kd_|apply ka_));refine blk_far ?_ NB203_216.out _;(with_reducible repeat (first|apply kn_|apply kd_|apply ka_));refine blk_far ?_ NB203_216.out _;(with_reducible repeat (first|apply kn_|apply kd_|apply ka_));refine blk_far ?_ NB203_216.out _;(with_reducible repeat (first|apply kn_|apply kd_|apply ka_));refine blk_far ?_ NB203_216.out _;(with_reducible repeat (first|apply kn_|apply kd_|apply ka_));exact BK203.out))⟩;have n5_ : Aside0 (w31.heap[gb216]? = some (.cells #[.int .i64 t206,.slice Ao28 t207.length co28,.slice Ao29 t210.length co29,.slice Ao30 t213.length co30] 30 (0,0))):=⟨(by rw [hw];exact (by (with_reducible repeat (first|apply kn_|apply kd_|apply ka_));refine blk_put (cs:=#[.int .i64 t206,.slice Ao28 t207.length co28,.slice Ao29 t210.length co29,.slice none 0 0]) ?_ 3 _ rfl;(with_reducible repeat (first|apply kn_|apply kd_|apply ka_));refine blk_put (cs:=#[.int .i64 t206,.slice Ao28 t207.length co28,.slice none 0 0,.slice none 0 0]) ?_ 2 _ rfl;(with_reducible repeat (first|apply kn_|apply kd_|apply ka_));refine blk_put (cs:=#[.int .i64 t206,.slice none 0 0,.slice none 0 0,.slice none 0 0]) ?_ 1 _ rfl;(with_reducible repeat (first|apply kn_|apply kd_|apply ka_));refine blk_put (cs:=#[.int .i64 0,.slice none 0 0,.slice none 0 0,.slice none 0 0]) ?_ 0 _ rfl;(with_reducible repeat (first|apply kn_|apply kd_|apply ka_));exact BK216.out))⟩;have n6_ : Aside0 (Below w.heap.size w w31):=⟨(by rw [hw];exact (u1_ HB GE202 GE203 GE216))⟩;clear hw HO209 HO212 HO215 BK202 BK203 BK216 HB;have HO209:=n0_;have HO212:=n1_;have HO215:=n2_;have BK202:=n3_;have BK203:=n4_;have BK216:=n5_;have HB:=n6_;clear n0_ n1_ n2_ n3_ n4_ n5_ n6_;have hcz32_0 : w31.cell? ⟨gb216,0,none⟩ = some (.int .i64 t206):=(bc_ BK216.out 0).trans rfl;have hcz32_1 : w31.cell? ⟨gb216,1,none⟩ = some (.slice Ao28 t207.length co28):=(bc_ BK216.out 1).trans rfl;have hcz32_2 : w31.cell? ⟨gb216,2,none⟩ = some (.slice Ao29 t210.length co29):=(bc_ BK216.out 2).trans rfl;have hcz32_3 : w31.cell? ⟨gb216,3,none⟩ = some (.slice Ao30 t213.length co30):=(bc_ BK216.out 3).trans rfl;have hfz32_0:=bf_ BK216.out 0;have hfz32_1:=bf_ BK216.out 1;have hfz32_2:=bf_ BK216.out 2;have hfz32_3:=bf_ BK216.out 3)|((with_reducible refine gate_callee (f:=60) rfl ?_);refine goesL_ (some 27) rfl rfl Try.func60 (by kernel_rfl) rfl #[.slice Ao28 t207.length co28,.int .i64 a1,.int .i64 (wrap64 (a1 + 1))] rfl qm_ ?_;(with_reducible refine (impl_Cable_60.calls (fun k_ => some k_ = (.slice Ao28 t207.length co28 : Value).ownBlock) (.slice Ao28 t207.length co28) t207 a1 (wrap64 (a1 + 1)) t217 w _ ?side1 ?side2 A20.out).mono ?_);(case side1 => exact u1_ HB GE202 GE203 GE216);(case side2 => exact Kd.R_tight rfl HO209.out);rintro e w33 ⟨v218,rfl,ho0,hb,hkp⟩;refine ⟨_,rfl,?_⟩;have n0_:=mk_ (blk_kept (qk_ BK202) hkp (fun hs_ => (fun e_ => (Kd.R_ne HO209.out BK202.out (by decide)) e_) hs_));have n1_:=mk_ (blk_kept (qk_ BK203) hkp (fun hs_ => (fun e_ => (Kd.R_ne HO209.out BK203.out (by decide)) e_) hs_));have n2_:=mk_ (rm_ (ok':=fun k_ => some k_ ≠ (.slice Ao30 t213.length co30 : Value).ownBlock) (Kd.R_keptB ((Kd.R_apart' HO212.out (Kd.R_typed HO209.out) (by decide))) hkp (fun k_ hk_ hs_ => (hk_.2) hs_)) (fun k_ hk_ => hk_.1.1));have n3_:=mk_ (rm_ (ok':=fun k_ => some k_ ≠ (.slice Ao29 t210.length co29 : Value).ownBlock) (Kd.R_keptB ((Kd.R_apart' HO215.out (Kd.R_typed HO209.out) (by decide))) hkp (fun k_ hk_ hs_ => (hk_.2) hs_)) (fun k_ hk_ => hk_.1.1));have n4_:=mk_ (blk_kept (qk_ BK216) hkp (fun hs_ => (fun e_ => (Kd.R_ne HO209.out BK216.out (by decide)) e_) hs_));have n5_:=mk_ (rm_ (ok':=fun k_ => True) ho0 (fun k_ hk_ => trivial));have n6_:=mk_ (hb);clear BK202 BK203 HO212 HO215 BK216 HB HO209;have BK202:=n0_;have BK203:=n1_;have HO212:=n2_;have HO215:=n3_;have BK216:=n4_;have HO219:=n5_;have HB:=n6_;clear n0_ n1_ n2_ n3_ n4_ n5_ n6_;(try clear hb);(try clear hkp);(try clear ho0);obtain ⟨Ao34,co34,eo34⟩:=Kd.R_slice HO219.out;subst eo34;have hcz35_0 : w33.cell? ⟨gb216,0,none⟩ = some (.int .i64 t206):=(bc_ BK216.out 0).trans rfl;have hcz35_1 : w33.cell? ⟨gb216,1,none⟩ = some (.slice Ao28 t207.length co28):=(bc_ BK216.out 1).trans rfl;have hcz35_2 : w33.cell? ⟨gb216,2,none⟩ = some (.slice Ao29 t210.length co29):=(bc_ BK216.out 2).trans rfl;have hcz35_3 : w33.cell? ⟨gb216,3,none⟩ = some (.slice Ao30 t213.length co30):=(bc_ BK216.out 3).trans rfl;have hfz35_0:=bf_ BK216.out 0;have hfz35_1:=bf_ BK216.out 1;have hfz35_2:=bf_ BK216.out 2;have hfz35_3:=bf_ BK216.out 3;have hcz36_0 : w33.cell? ⟨gb203,0,none⟩ = some (.int .i64 0):=(bc_ BK203.out 0).trans rfl;have hcz36_1 : w33.cell? ⟨gb203,1,none⟩ = some (.slice none 0 0):=(bc_ BK203.out 1).trans rfl;have hcz36_2 : w33.cell? ⟨gb203,2,none⟩ = some (.slice none 0 0):=(bc_ BK203.out 2).trans rfl;have hcz36_3 : w33.cell? ⟨gb203,3,none⟩ = some (.slice none 0 0):=(bc_ BK203.out 3).trans rfl;have hfz36_0:=bf_ BK203.out 0;have hfz36_1:=bf_ BK203.out 1;have hfz36_2:=bf_ BK203.out 2;have hfz36_3:=bf_ BK203.out 3))
    refine bodyPost_ret (results_ct rfl _ _ gb203 30 #[.int .i64 t206,.slice Ao34 t217.length co34,.slice Ao29 t210.length co29,.slice Ao30 t213.length co30] (0,0) _ rfl (by (with_reducible repeat (first|apply kn_|apply kd_|apply ka_));refine blk_put (cs:=#[.int .i64 t206,.slice Ao34 t217.length co34,.slice Ao29 t210.length co29,.slice none 0 0]) ?_ 3 _ rfl;(with_reducible repeat (first|apply kn_|apply kd_|apply ka_));refine blk_put (cs:=#[.int .i64 t206,.slice Ao34 t217.length co34,.slice none 0 0,.slice none 0 0]) ?_ 2 _ rfl;(with_reducible repeat (first|apply kn_|apply kd_|apply ka_));refine blk_put (cs:=#[.int .i64 t206,.slice none 0 0,.slice none 0 0,.slice none 0 0]) ?_ 1 _ rfl;(with_reducible repeat (first|apply kn_|apply kd_|apply ka_));refine blk_put (cs:=#[.int .i64 0,.slice none 0 0,.slice none 0 0,.slice none 0 0]) ?_ 0 _ rfl;(with_reducible repeat (first|apply kn_|apply kd_|apply ka_));refine blk_far ?_ NB203_216.out _;(with_reducible repeat (first|apply kn_|apply kd_|apply ka_));exact BK203.out) Try.underlying30 rfl (by kernel_rfl)) rfl ?_
    exact ⟨_,_,_,qe_,by (with_reducible repeat (first|apply ra_|apply rn_|apply rd_));exact rm_ (rf_ (p:=⟨gb203,3,none⟩) (rf_ (p:=⟨gb203,2,none⟩) (rf_ (p:=⟨gb203,1,none⟩) (rf_ (p:=⟨gb203,0,none⟩) (rf_ (p:=⟨gb216,1,none⟩) (rt_ (rt_ HO219.out BK216.out (by decide)) BK203.out (by decide)) (fun _ hk => hk.1.2) (.slice Ao34 t217.length co34)) (λ_ h=>h.2) (.int .i64 t206)) (λ_ h=>h.2) (.slice Ao34 t217.length co34)) (λ_ h=>h.2) (.slice Ao29 t210.length co29)) (λ_ h=>h.2) (.slice Ao30 t213.length co30)) (λ_ _=>trivial),by (with_reducible repeat (first|apply ra_|apply rn_|apply rd_));exact rm_ (rf_ (p:=⟨gb203,3,none⟩) (rf_ (p:=⟨gb203,2,none⟩) (rf_ (p:=⟨gb203,1,none⟩) (rf_ (p:=⟨gb203,0,none⟩) (rf_ (p:=⟨gb216,1,none⟩) (rt_ (rt_ HO212.out BK216.out (by decide)) BK203.out (by decide)) (fun _ hk => hk.1.2) (.slice Ao34 t217.length co34)) (λ_ h=>h.2) (.int .i64 t206)) (λ_ h=>h.2) (.slice Ao34 t217.length co34)) (λ_ h=>h.2) (.slice Ao29 t210.length co29)) (λ_ h=>h.2) (.slice Ao30 t213.length co30)) (fun _ hk => hk.1.1),by (with_reducible repeat (first|apply ra_|apply rn_|apply rd_));exact rm_ (rf_ (p:=⟨gb203,3,none⟩) (rf_ (p:=⟨gb203,2,none⟩) (rf_ (p:=⟨gb203,1,none⟩) (rf_ (p:=⟨gb203,0,none⟩) (rf_ (p:=⟨gb216,1,none⟩) (rt_ (rt_ HO215.out BK216.out (by decide)) BK203.out (by decide)) (fun _ hk => hk.1.2) (.slice Ao34 t217.length co34)) (λ_ h=>h.2) (.int .i64 t206)) (λ_ h=>h.2) (.slice Ao34 t217.length co34)) (λ_ h=>h.2) (.slice Ao29 t210.length co29)) (λ_ h=>h.2) (.slice Ao30 t213.length co30)) (fun _ hk => hk.1.1),u1_ HB GE202 GE203 GE216⟩

/-! ### laws_heldIntS: function 25 -/
def laws_heldIntS.l0 : Nat → List Int → Int → Int → Option (Int)
 | 0,_,_,_ => none
 | k + 1,x0,x1,x5 => if x5 < (x0.length : Int) then (if 0 ≤ x5 then (if (rd x0 x5) = x1 then (laws_heldIntS.l0 k x0 (wrap64 (x1 + 1)) (wrap64 (x5 + 1))) else (some (-1))) else (none)) else (some x1)
def laws_heldIntS.f (k : Nat) (l0 : List Int) (a1 : Int) : Option (Int):=laws_heldIntS.l0 k l0 a1 0
theorem laws_heldIntS.mono_l : ∀ k,(∀ y0 y1 y2,LeO (laws_heldIntS.l0 k y0 y1 y2) (laws_heldIntS.l0 (k + 1) y0 y1 y2))
 | 0 => fun _ _ _ r h => by simp [laws_heldIntS.l0] at h
 | k + 1 => by
  have ih0:=laws_heldIntS.mono_l k
  ·intro y0 y1 y2
   unfold laws_heldIntS.l0
   repeat' first
   | (with_reducible exact ih0 _ _ _)
   | (with_reducible exact LeO.refl _)
   | (with_reducible exact LeO.none _)
   | (with_reducible refine LeO.ite ?_ ?_)
   | (with_reducible refine LeO.bind ?_ (fun _ => ?_))
   | exact ih0 _ _ _
   | exact LeO.none _
   | refine LeO.ite ?_ ?_
   | refine LeO.bind ?_ (fun _ => ?_)
theorem laws_heldIntS.mono : ∀ a0 a1 k,LeO (laws_heldIntS.f k a0 a1) (laws_heldIntS.f (k + 1) a0 a1):=by
 intro a0 a1 k
 have ih0:=laws_heldIntS.mono_l k
 unfold laws_heldIntS.f
 repeat' first
   | (with_reducible exact ih0 _ _ _)
   | (with_reducible exact LeO.refl _)
   | (with_reducible exact LeO.none _)
   | (with_reducible refine LeO.ite ?_ ?_)
   | (with_reducible refine LeO.bind ?_ (fun _ => ?_))
   | exact ih0 _ _ _
   | exact LeO.none _
   | refine LeO.ite ?_ ?_
   | refine LeO.bind ?_ (fun _ => ?_)
set_option maxHeartbeats 8000000 in
set_option maxRecDepth 100000 in
theorem laws_heldIntS.calls (k : Nat) (A0 : Option Addr) (c0 : Nat) (l0 : List Int) (a1 : Int) (r : Int) (w : World) (hr0 : Kd.C (Kd.int .i64) w A0 l0.length l0) (hc0 : l0.length ≤ c0) (h : laws_heldIntS.f k l0 a1 = some r) :
  Calls Try.prog 25 #[.slice A0 l0.length c0,.int .i64 a1] w fun e w' => e = .returned (.int .i64 r) ∧ Drawn0 w w':=by
 have HR0:=mk_ hr0
 have HC0:=mk_ hc0
 clear hr0 hc0
 have H : (laws_heldIntS.l0 k l0 a1 0) = some r:=h
 clear h
 have H':=mk_ H
 clear H
 go_enter Try.func25,Try.ntmps25
 go_wp2
 go_loopg [1,5] k (fun kq v1 v5 w' => ∃ (x1_1 : Int) (x5_1 : Int),v1 = .int .i64 x1_1 ∧ v5 = .int .i64 x5_1 ∧ Aside0 (laws_heldIntS.l0 kq l0 x1_1 x5_1 = some r) ∧ Aside0 (kq ≤ k) ∧ Drawn0 w w')
 case atStart => exact ⟨(a1),(0),qf_,qf_,H',⟨Nat.le_refl _⟩,by repeat (first|exact Drawn0.refl _|apply Drawn0.step)⟩
 case round =>
  clear H'
  try clear c2
  try clear p2
  obtain ⟨x1_1,x5_1,rfl,rfl,HA,HK1,⟨m1,rfl⟩⟩:=hrel
  cases gk with
  | zero => exact absurd HA.out (by simp [laws_heldIntS.l0])
  | succ k1 =>
   have H:=HA.out
   clear HA
   simp only [laws_heldIntS.l0] at H
   by_cases c3 : x5_1 < (l0.length : Int)
   ·rw [if_pos c3] at H
    have c3b0 : decide (x5_1 < (l0.length : Int)) = true:=decide_eq_true c3
    clear c3
    by_cases c4 : 0 ≤ x5_1
    ·rw [if_pos c4] at H
     have c4b0 : decide (0 ≤ x5_1) = true:=decide_eq_true c4
     clear c4
     by_cases c5 : (rd l0 x5_1) = x1_1
     ·rw [if_pos c5] at H
      have c5b0 : ((rd l0 x5_1) == x1_1) = true:=beq_iff_eq.mpr c5
      have c5b1 : ((rd l0 x5_1) != x1_1) = false:=bne_eq_false_iff_eq.mpr c5
      clear c5
      have H':=mk_ H
      clear H
      have p220 : 0 ≤ (x5_1 : Int):=od_ qa_
      have q220 : x5_1 < (l0.length : Int):=od_ qa_
      obtain ⟨ad220,e220,hx220_0⟩:=Kd.at_int HR0.out x5_1 p220 q220
      cases e220
      replace p220:=eq_true p220
      replace q220:=eq_true q220
      go_wp2
      go_roundg k1
      case measure => have:=HK1.out;omega
      case rel => exact ⟨(wrap64 (x1_1 + 1)),(wrap64 (x5_1 + 1)),qf_,qf_,H',⟨by have:=HK1.out;omega⟩,by repeat (first|exact Drawn0.refl _|apply Drawn0.step)⟩
     ·rw [if_neg c5] at H
      have c5b0 : ((rd l0 x5_1) == x1_1) = false:=beq_eq_false_iff_ne.mpr c5
      have c5b1 : ((rd l0 x5_1) != x1_1) = true:=bne_iff_ne.mpr c5
      obtain rfl:=Option.some.inj H
      have p220 : 0 ≤ (x5_1 : Int):=od_ qa_
      have q220 : x5_1 < (l0.length : Int):=od_ qa_
      obtain ⟨ad220,e220,hx220_0⟩:=Kd.at_int HR0.out x5_1 p220 q220
      cases e220
      replace p220:=eq_true p220
      replace q220:=eq_true q220
      go_wp2
      go_ret
      exact ⟨by first|rfl|(simp;done)|(simp [*];done),by repeat (first|exact Drawn0.refl _|apply Drawn0.step)⟩
    ·rw [if_neg c4] at H
     exact absurd H (by simp)
   ·rw [if_neg c3] at H
    have c3b0 : decide (x5_1 < (l0.length : Int)) = false:=decide_eq_false c3
    clear c3
    obtain rfl:=Option.some.inj H
    go_wp2
    go_ret
    exact ⟨by first|rfl|(simp;done)|(simp [*];done),by repeat (first|exact Drawn0.refl _|apply Drawn0.step)⟩

/-! ### laws_heldCableS: function 61 -/
def laws_heldCableS.l0 : Nat → List (S51) → Int → Int → Option (Int)
 | 0,_,_,_ => none
 | k + 1,x0,x1,x5 => if x5 < (x0.length : Int) then (if 0 ≤ x5 then (if ((rd_T51 x0 x5).f0) = x1 then (if ((rd_T51 x0 x5).f1) = (wrap64 (x1 + 1)) then (if ((rd_T51 x0 x5).f2) = (wrap64 ((wrap64 (x1 + 1)) + 1)) then (laws_heldCableS.l0 k x0 (wrap64 ((wrap64 ((wrap64 (x1 + 1)) + 1)) + 1)) (wrap64 (x5 + 1))) else (some (-1))) else (some (-1))) else (some (-1))) else (none)) else (some x1)
def laws_heldCableS.f (k : Nat) (l0 : List (S51)) (a1 : Int) : Option (Int):=laws_heldCableS.l0 k l0 a1 0
theorem laws_heldCableS.mono_l : ∀ k,(∀ y0 y1 y2,LeO (laws_heldCableS.l0 k y0 y1 y2) (laws_heldCableS.l0 (k + 1) y0 y1 y2))
 | 0 => fun _ _ _ r h => by simp [laws_heldCableS.l0] at h
 | k + 1 => by
  have ih0:=laws_heldCableS.mono_l k
  ·intro y0 y1 y2
   unfold laws_heldCableS.l0
   repeat' first
   | (with_reducible exact ih0 _ _ _)
   | (with_reducible exact LeO.refl _)
   | (with_reducible exact LeO.none _)
   | (with_reducible refine LeO.ite ?_ ?_)
   | (with_reducible refine LeO.bind ?_ (fun _ => ?_))
   | exact ih0 _ _ _
   | exact LeO.none _
   | refine LeO.ite ?_ ?_
   | refine LeO.bind ?_ (fun _ => ?_)
theorem laws_heldCableS.mono : ∀ a0 a1 k,LeO (laws_heldCableS.f k a0 a1) (laws_heldCableS.f (k + 1) a0 a1):=by
 intro a0 a1 k
 have ih0:=laws_heldCableS.mono_l k
 unfold laws_heldCableS.f
 repeat' first
   | (with_reducible exact ih0 _ _ _)
   | (with_reducible exact LeO.refl _)
   | (with_reducible exact LeO.none _)
   | (with_reducible refine LeO.ite ?_ ?_)
   | (with_reducible refine LeO.bind ?_ (fun _ => ?_))
   | exact ih0 _ _ _
   | exact LeO.none _
   | refine LeO.ite ?_ ?_
   | refine LeO.bind ?_ (fun _ => ?_)
set_option maxHeartbeats 8000000 in
set_option maxRecDepth 100000 in
theorem laws_heldCableS.calls (k : Nat) (A0 : Option Addr) (c0 : Nat) (l0 : List (S51)) (a1 : Int) (r : Int) (w : World) (hr0 : Kd.C k51 w A0 l0.length l0) (hc0 : l0.length ≤ c0) (h : laws_heldCableS.f k l0 a1 = some r) :
  Calls Try.prog 61 #[.slice A0 l0.length c0,.int .i64 a1] w fun e w' => e = .returned (.int .i64 r) ∧ Drawn0 w w':=by
 have HR0:=mk_ hr0
 have HC0:=mk_ hc0
 clear hr0 hc0
 have H : (laws_heldCableS.l0 k l0 a1 0) = some r:=h
 clear h
 have H':=mk_ H
 clear H
 go_enter Try.func61,Try.ntmps61
 go_wp2
 go_loopg [1,5] k (fun kq v1 v5 w' => ∃ (x1_1 : Int) (x5_1 : Int),v1 = .int .i64 x1_1 ∧ v5 = .int .i64 x5_1 ∧ Aside0 (laws_heldCableS.l0 kq l0 x1_1 x5_1 = some r) ∧ Aside0 (kq ≤ k) ∧ Drawn0 w w')
 case atStart => exact ⟨(a1),(0),qf_,qf_,H',⟨Nat.le_refl _⟩,by repeat (first|exact Drawn0.refl _|apply Drawn0.step)⟩
 case round =>
  clear H'
  try clear p2
  obtain ⟨x1_1,x5_1,rfl,rfl,HA,HK1,⟨m1,rfl⟩⟩:=hrel
  cases gk with
  | zero => exact absurd HA.out (by simp [laws_heldCableS.l0])
  | succ k1 =>
   have H:=HA.out
   clear HA
   simp only [laws_heldCableS.l0] at H
   by_cases c3 : x5_1 < (l0.length : Int)
   ·rw [if_pos c3] at H
    have c3b0 : decide (x5_1 < (l0.length : Int)) = true:=decide_eq_true c3
    clear c3
    by_cases c4 : 0 ≤ x5_1
    ·rw [if_pos c4] at H
     have c4b0 : decide (0 ≤ x5_1) = true:=decide_eq_true c4
     clear c4
     by_cases c5 : ((rd_T51 l0 x5_1).f0) = x1_1
     ·rw [if_pos c5] at H
      have c5b0 : (((rd_T51 l0 x5_1).f0) == x1_1) = true:=beq_iff_eq.mpr c5
      have c5b1 : (((rd_T51 l0 x5_1).f0) != x1_1) = false:=bne_eq_false_iff_eq.mpr c5
      clear c5
      by_cases c6 : ((rd_T51 l0 x5_1).f1) = (wrap64 (x1_1 + 1))
      ·rw [if_pos c6] at H
       have c6b0 : (((rd_T51 l0 x5_1).f1) == (wrap64 (x1_1 + 1))) = true:=beq_iff_eq.mpr c6
       have c6b1 : (((rd_T51 l0 x5_1).f1) != (wrap64 (x1_1 + 1))) = false:=bne_eq_false_iff_eq.mpr c6
       clear c6
       by_cases c7 : ((rd_T51 l0 x5_1).f2) = (wrap64 ((wrap64 (x1_1 + 1)) + 1))
       ·rw [if_pos c7] at H
        have c7b0 : (((rd_T51 l0 x5_1).f2) == (wrap64 ((wrap64 (x1_1 + 1)) + 1))) = true:=beq_iff_eq.mpr c7
        have c7b1 : (((rd_T51 l0 x5_1).f2) != (wrap64 ((wrap64 (x1_1 + 1)) + 1))) = false:=bne_eq_false_iff_eq.mpr c7
        clear c7
        have H':=mk_ H
        clear H
        have p221 : 0 ≤ (x5_1 : Int):=od_ qa_
        have q221 : x5_1 < (l0.length : Int):=od_ qa_
        obtain ⟨ad221,e221,hx221_0,hx221_1,hx221_2⟩:=at_T51 HR0.out x5_1 p221 q221
        cases e221
        replace p221:=eq_true p221
        replace q221:=eq_true q221
        have p222 : 0 ≤ (x5_1 : Int):=od_ qa_
        have q222 : x5_1 < (l0.length : Int):=od_ qa_
        obtain ⟨ad222,e222,hx222_0,hx222_1,hx222_2⟩:=at_T51 HR0.out x5_1 p222 q222
        obtain rfl : ad221 = ad222:=(by injection e222)
        replace p222:=eq_true p222
        replace q222:=eq_true q222
        have p223 : 0 ≤ (x5_1 : Int):=od_ qa_
        have q223 : x5_1 < (l0.length : Int):=od_ qa_
        obtain ⟨ad223,e223,hx223_0,hx223_1,hx223_2⟩:=at_T51 HR0.out x5_1 p223 q223
        obtain rfl : ad221 = ad223:=(by injection e223)
        replace p223:=eq_true p223
        replace q223:=eq_true q223
        go_wp2
        go_roundg k1
        case measure => have:=HK1.out;omega
        case rel => exact ⟨(wrap64 ((wrap64 ((wrap64 (x1_1 + 1)) + 1)) + 1)),(wrap64 (x5_1 + 1)),qf_,qf_,H',⟨by have:=HK1.out;omega⟩,by repeat (first|exact Drawn0.refl _|apply Drawn0.step)⟩
       ·rw [if_neg c7] at H
        have c7b0 : (((rd_T51 l0 x5_1).f2) == (wrap64 ((wrap64 (x1_1 + 1)) + 1))) = false:=beq_eq_false_iff_ne.mpr c7
        have c7b1 : (((rd_T51 l0 x5_1).f2) != (wrap64 ((wrap64 (x1_1 + 1)) + 1))) = true:=bne_iff_ne.mpr c7
        obtain rfl:=Option.some.inj H
        have p221 : 0 ≤ (x5_1 : Int):=od_ qa_
        have q221 : x5_1 < (l0.length : Int):=od_ qa_
        obtain ⟨ad221,e221,hx221_0,hx221_1,hx221_2⟩:=at_T51 HR0.out x5_1 p221 q221
        cases e221
        replace p221:=eq_true p221
        replace q221:=eq_true q221
        have p222 : 0 ≤ (x5_1 : Int):=od_ qa_
        have q222 : x5_1 < (l0.length : Int):=od_ qa_
        obtain ⟨ad222,e222,hx222_0,hx222_1,hx222_2⟩:=at_T51 HR0.out x5_1 p222 q222
        obtain rfl : ad221 = ad222:=(by injection e222)
        replace p222:=eq_true p222
        replace q222:=eq_true q222
        have p223 : 0 ≤ (x5_1 : Int):=od_ qa_
        have q223 : x5_1 < (l0.length : Int):=od_ qa_
        obtain ⟨ad223,e223,hx223_0,hx223_1,hx223_2⟩:=at_T51 HR0.out x5_1 p223 q223
        obtain rfl : ad221 = ad223:=(by injection e223)
        replace p223:=eq_true p223
        replace q223:=eq_true q223
        go_wp2
        go_ret
        exact ⟨by first|rfl|(simp;done)|(simp [*];done),by repeat (first|exact Drawn0.refl _|apply Drawn0.step)⟩
      ·rw [if_neg c6] at H
       have c6b0 : (((rd_T51 l0 x5_1).f1) == (wrap64 (x1_1 + 1))) = false:=beq_eq_false_iff_ne.mpr c6
       have c6b1 : (((rd_T51 l0 x5_1).f1) != (wrap64 (x1_1 + 1))) = true:=bne_iff_ne.mpr c6
       obtain rfl:=Option.some.inj H
       have p221 : 0 ≤ (x5_1 : Int):=od_ qa_
       have q221 : x5_1 < (l0.length : Int):=od_ qa_
       obtain ⟨ad221,e221,hx221_0,hx221_1,hx221_2⟩:=at_T51 HR0.out x5_1 p221 q221
       cases e221
       replace p221:=eq_true p221
       replace q221:=eq_true q221
       have p222 : 0 ≤ (x5_1 : Int):=od_ qa_
       have q222 : x5_1 < (l0.length : Int):=od_ qa_
       obtain ⟨ad222,e222,hx222_0,hx222_1,hx222_2⟩:=at_T51 HR0.out x5_1 p222 q222
       obtain rfl : ad221 = ad222:=(by injection e222)
       replace p222:=eq_true p222
       replace q222:=eq_true q222
       go_wp2
       go_ret
       exact ⟨by first|rfl|(simp;done)|(simp [*];done),by repeat (first|exact Drawn0.refl _|apply Drawn0.step)⟩
     ·rw [if_neg c5] at H
      have c5b0 : (((rd_T51 l0 x5_1).f0) == x1_1) = false:=beq_eq_false_iff_ne.mpr c5
      have c5b1 : (((rd_T51 l0 x5_1).f0) != x1_1) = true:=bne_iff_ne.mpr c5
      obtain rfl:=Option.some.inj H
      have p221 : 0 ≤ (x5_1 : Int):=od_ qa_
      have q221 : x5_1 < (l0.length : Int):=od_ qa_
      obtain ⟨ad221,e221,hx221_0,hx221_1,hx221_2⟩:=at_T51 HR0.out x5_1 p221 q221
      cases e221
      replace p221:=eq_true p221
      replace q221:=eq_true q221
      go_wp2
      go_ret
      exact ⟨by first|rfl|(simp;done)|(simp [*];done),by repeat (first|exact Drawn0.refl _|apply Drawn0.step)⟩
    ·rw [if_neg c4] at H
     exact absurd H (by simp)
   ·rw [if_neg c3] at H
    have c3b0 : decide (x5_1 < (l0.length : Int)) = false:=decide_eq_false c3
    clear c3
    obtain rfl:=Option.some.inj H
    go_wp2
    go_ret
    exact ⟨by first|rfl|(simp;done)|(simp [*];done),by repeat (first|exact Drawn0.refl _|apply Drawn0.step)⟩

end Go.Proofs.Ytdamdcdjodmemaa.PAll
