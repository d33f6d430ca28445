/- Proved here: contracts of functions of the given program, or lemmas on them, for the laws of this seat. Written by xprint.py, a program of this session, on the ground of the kit's print; parts by hand: wip/x/ext. -/
import Derived.Test.YtdpnloibbimblaaProg
import Derived.Below
import Derived.Deep.Draws
import Derived.Deep.AppendLies
import Derived.Maps.AppendAt
import Derived.OwnWalk
import Derived.Laws.BytesArg
import Derived.Laws.MakeOwn
import Derived.Laws.OwnMore
import Derived.Deep.OwnRows
import Derived.Tactics
import Derived.Lib.ConvBytes
import Derived.Laws.Slices
import Derived.WalkKit
import Derived.KernelRfl
import Derived.RowKit3
import Derived.Deep.LoopGhost
import Derived.Deep.QuietTactic
import Derived.BigQuiet
import Derived.WideLaws
import Derived.Deep.DeepCutAuto
import Derived.Deep.CutBlock
import Derived.Deep.RegionHeld3
import Derived.Laws.Rows
import Derived.Lib.AppendStr
import Derived.ArgAppend
import Derived.Laws.IdiomCopy
import Derived.OrdersHeld
import Derived.Laws.BitsLemmas
import Derived.RowKit
import Derived.Shelf.Abstract
import Derived.Deep.RegionLaw
import Derived.StillTailTactics
import Derived.Deep.Slices
import Derived.WalkSpells
import Derived.Test.YtdpnloibbimblaaWWords
import Derived.Test.YtdpnloibbimblaaWLast
import Derived.Test.YtdpnloibbimblaaWTab
import Derived.Test.YtdpnloibbimblaaWQPut
import Derived.Test.YtdpnloibbimblaaWApart
import Derived.Test.YtdpnloibbimblaaWArr
import Derived.Test.YtdpnloibbimblaaWZeros
import Derived.Test.YtdpnloibbimblaaWFoot
import Derived.Test.YtdpnloibbimblaaWKept
import Derived.Test.YtdpnloibbimblaaWShare
import Derived.Test.YtdpnloibbimblaaWN
import Derived.Test.YtdpnloibbimblaaWRepsOne
import Derived.Test.YtdpnloibbimblaaWGuard
import Derived.Test.YtdpnloibbimblaaWNEv
import Derived.Test.YtdpnloibbimblaaWMore
namespace Go.Proofs.Ytdpnloibbimblaa.PAll
open Go.RowKit Go.Proofs.YtdpnloibbimblaaW.PrintWords Go.Proofs.YtdpnloibbimblaaW.PrintLast Go.Proofs.YtdpnloibbimblaaW.PrintMore
attribute [local go_sem] max2_int min2_int max_two min_two max_three min_three max_four min_four   -- for this text's walks alone
set_option linter.unusedVariables false
set_option linter.unusedSimpArgs false



def errW : Option Int → Value
  | none => .nilIface
  | some c => .iface 0 (.int .i64 c)
theorem errW_none : errW none = .nilIface:=rfl
theorem errW_some (c : Int) : errW (some c) = .iface 0 (.int .i64 c):=rfl

theorem info3 : (Try.prog.info? 3).map (fun i => (i.zero,i.size,i.bytes)) = some (some (.int .i64 0),1,8):=by kernel_rfl
theorem info5 : (Try.prog.info? 5).map (fun i => (i.zero,i.size,i.bytes)) = some (some (.int .u8 0),1,1):=by kernel_rfl
theorem info22 : (Try.prog.info? 22).map (fun i => (i.zero,i.size,i.bytes)) = some (some (.slice none 0 0),1,24):=by kernel_rfl
-- the values' own types
def rd_L1 (xs : List (List Int)) (i : Int) : (List Int):=xs.getD i.toNat ([] : List Int)
theorem at_L1 {w : World} {A : Option Addr} {n : Nat} {xs : List (List Int)} (h : Kd.C (Kd.slice 3 (Kd.int .i64)) w A n xs) (i : Int) (h0 : 0 ≤ i) (h1 : i < n) : ∃ ad A0 c0,A = some ad ∧ w.cell? (ad.add i.toNat) = some (.slice A0 (rd_L1 xs i).length c0) ∧ (rd_L1 xs i).length ≤ c0 ∧ (Kd.int .i64).C w A0 (rd_L1 xs i).length (rd_L1 xs i):=by
  obtain ⟨ad,c,e,_,hK,hc0⟩:=Kd.C_get h ([] : List Int) i h0 h1
  have hc : ∀ j u,c[j]? = some u → w.cell? (ad.add (i.toNat * 1 + j)) = some u:=hc0
  obtain ⟨A0,c0,rfl,l0,g0⟩:=hK
  exact ⟨ad,A0,c0,e,by have hq:=hc 0 _ rfl;rwa [Nat.mul_one,Nat.add_zero] at hq,l0,g0⟩

def rd_L4 (xs : List (List Int)) (i : Int) : (List Int):=xs.getD i.toNat ([] : List Int)
theorem at_L4 {w : World} {A : Option Addr} {n : Nat} {xs : List (List Int)} (h : Kd.C (Kd.slice 5 (Kd.int .u8)) w A n xs) (i : Int) (h0 : 0 ≤ i) (h1 : i < n) : ∃ ad A0 c0,A = some ad ∧ w.cell? (ad.add i.toNat) = some (.slice A0 (rd_L4 xs i).length c0) ∧ (rd_L4 xs i).length ≤ c0 ∧ (Kd.int .u8).C w A0 (rd_L4 xs i).length (rd_L4 xs i):=by
  obtain ⟨ad,c,e,_,hK,hc0⟩:=Kd.C_get h ([] : List Int) i h0 h1
  have hc : ∀ j u,c[j]? = some u → w.cell? (ad.add (i.toNat * 1 + j)) = some u:=hc0
  obtain ⟨A0,c0,rfl,l0,g0⟩:=hK
  exact ⟨ad,A0,c0,e,by have hq:=hc 0 _ rfl;rwa [Nat.mul_one,Nat.add_zero] at hq,l0,g0⟩

def rd_L5 (xs : List (List (List Int))) (i : Int) : (List (List Int)):=xs.getD i.toNat ([] : List (List Int))
theorem at_L5 {w : World} {A : Option Addr} {n : Nat} {xs : List (List (List Int))} (h : Kd.C (Kd.slice 22 (Kd.slice 5 (Kd.int .u8))) w A n xs) (i : Int) (h0 : 0 ≤ i) (h1 : i < n) : ∃ ad A0 c0,A = some ad ∧ w.cell? (ad.add i.toNat) = some (.slice A0 (rd_L5 xs i).length c0) ∧ (rd_L5 xs i).length ≤ c0 ∧ (Kd.slice 5 (Kd.int .u8)).C w A0 (rd_L5 xs i).length (rd_L5 xs i):=by
  obtain ⟨ad,c,e,_,hK,hc0⟩:=Kd.C_get h ([] : List (List Int)) i h0 h1
  have hc : ∀ j u,c[j]? = some u → w.cell? (ad.add (i.toNat * 1 + j)) = some u:=hc0
  obtain ⟨A0,c0,rfl,l0,g0⟩:=hK
  exact ⟨ad,A0,c0,e,by have hq:=hc 0 _ rfl;rwa [Nat.mul_one,Nat.add_zero] at hq,l0,g0⟩

/-! #### struct type 28 -/
structure S28 where
  f0 : (List (List Int))
  f1 : Int
  f2 : Int
  f3 : Bool
def z28 : S28:=⟨([] : List (List Int)),(0 : Int),(0 : Int),false⟩
def k28 : Kd S28:=Kd.iso (Kd.pair (Kd.slice 22 (Kd.slice 5 (Kd.int .u8))) (Kd.pair (Kd.int .i64) (Kd.pair (Kd.int .i64) Kd.bool))) (fun x : S28 => (x.f0,x.f1,x.f2,x.f3))
theorem k28_open {w : World} {x : S28} {cs : List Value} (h : k28.K w x cs) : ∃ A0 c0,cs = [.slice A0 x.f0.length c0,.int .i64 x.f1,.int .i64 x.f2,.bool x.f3] ∧ x.f0.length ≤ c0 ∧ (Kd.slice 5 (Kd.int .u8)).C w A0 x.f0.length x.f0:=by
  obtain ⟨_,_,rfl,⟨A0,c0,rfl,l0,g0⟩,⟨_,_,rfl,rfl,⟨_,_,rfl,rfl,rfl⟩⟩⟩:=h
  exact ⟨A0,c0,rfl,l0,g0⟩
theorem k28_openM {w : World} {base : Nat} {ok : Nat → Prop} {x : S28} {cs : List Value} (h : k28.M w base ok x cs) : ∃ v0,cs = [v0,.int .i64 x.f1,.int .i64 x.f2,.bool x.f3] ∧ (Kd.slice 5 (Kd.int .u8)).R 22 w base ok v0 x.f0:=by
  obtain ⟨_,_,rfl,⟨v0,rfl,g0⟩,⟨_,_,rfl,rfl,⟨_,_,rfl,rfl,rfl⟩⟩⟩:=h
  exact ⟨v0,rfl,g0⟩
theorem k28_mk (w : World) (x : S28) {A0 : Option Addr} {c0 : Nat} (l0 : x.f0.length ≤ c0) (g0 : (Kd.slice 5 (Kd.int .u8)).C w A0 x.f0.length x.f0) : k28.K w x [.slice A0 x.f0.length c0,.int .i64 x.f1,.int .i64 x.f2,.bool x.f3]:=⟨[.slice A0 x.f0.length c0],[.int .i64 x.f1,.int .i64 x.f2,.bool x.f3],rfl,⟨A0,c0,rfl,l0,g0⟩,⟨[.int .i64 x.f1],[.int .i64 x.f2,.bool x.f3],rfl,rfl,⟨[.int .i64 x.f2],[.bool x.f3],rfl,rfl,rfl⟩⟩⟩
theorem k28_mkM (w : World) (base : Nat) (ok : Nat → Prop) (x : S28) {v0 : Value} (g0 : (Kd.slice 5 (Kd.int .u8)).R 22 w base ok v0 x.f0) : k28.M w base ok x [v0,.int .i64 x.f1,.int .i64 x.f2,.bool x.f3]:=⟨[v0],[.int .i64 x.f1,.int .i64 x.f2,.bool x.f3],rfl,⟨v0,rfl,g0⟩,⟨[.int .i64 x.f1],[.int .i64 x.f2,.bool x.f3],rfl,rfl,⟨[.int .i64 x.f2],[.bool x.f3],rfl,rfl,rfl⟩⟩⟩
def rd_T28 (xs : List S28) (i : Int) : S28:=xs.getD i.toNat z28
theorem at_T28 {w : World} {A : Option Addr} {n : Nat} {xs : List S28} (h : Kd.C k28 w A n xs) (i : Int) (h0 : 0 ≤ i) (h1 : i < n) : ∃ ad A0 c0,A = some ad ∧ w.cell? (ad.add (i.toNat * 4)) = some (.slice A0 (rd_T28 xs i).f0.length c0) ∧ w.cell? ⟨(ad.add (i.toNat * 4)).block,(ad.add (i.toNat * 4)).off + 1,none⟩ = some (.int .i64 (rd_T28 xs i).f1) ∧ w.cell? ⟨(ad.add (i.toNat * 4)).block,(ad.add (i.toNat * 4)).off + 2,none⟩ = some (.int .i64 (rd_T28 xs i).f2) ∧ w.cell? ⟨(ad.add (i.toNat * 4)).block,(ad.add (i.toNat * 4)).off + 3,none⟩ = some (.bool (rd_T28 xs i).f3) ∧ (rd_T28 xs i).f0.length ≤ c0 ∧ (Kd.slice 5 (Kd.int .u8)).C w A0 (rd_T28 xs i).f0.length (rd_T28 xs i).f0:=by
  obtain ⟨ad,c,e,_,hK,hc0⟩:=Kd.C_get h z28 i h0 h1
  have hc : ∀ j u,c[j]? = some u → w.cell? (ad.add (i.toNat * 4 + j)) = some u:=hc0
  obtain ⟨A0,c0,rfl,l0,g0⟩:=k28_open hK
  exact ⟨ad,A0,c0,e,hc 0 _ rfl,by rw [← add_field _ _ 1 (by omega)];exact hc 1 _ rfl,by rw [← add_field _ _ 2 (by omega)];exact hc 2 _ rfl,by rw [← add_field _ _ 3 (by omega)];exact hc 3 _ rfl,l0,g0⟩

-- short names, so that a claim stays below its bound
abbrev mk_ := @Aside0.mk
abbrev bn_ := @pw_below_drewN
abbrev bd_ := @below_drew1
abbrev ba_ := @below_alloc
abbrev ra_ := @Kd.R_alloc
abbrev rn_ := @Kd.R_drewN
abbrev rd_ := @Kd.R_drew
abbrev bf_ := @blk_frozen
abbrev bc_ := @blk_cell
abbrev bs_ := @below_set
abbrev od_ := @of_decide_eq_true
abbrev wl_ := @World.block_lt_of_cell?
abbrev ca_ := @Kd.C_alloc
abbrev cn_ := @Kd.C_drewN
abbrev cd_ := @Kd.C_drew
abbrev kn_ := @blk_drewN
abbrev kd_ := @blk_drew
abbrev ka_ := @blk_alloc
abbrev st_ := @below_step
abbrev rb_ := @Kd.R_below
abbrev rr_ := @Kd.R_reads'
abbrev bz_ := @below_size
abbrev re_ := @Kd.R_elder'
abbrev cb_ := @Kd.C_below
abbrev rm_ := @Kd.R_mono
abbrev rt_ := @Kd.R_types
abbrev rf_ := @Kd.R_far
theorem qr_ {p q : Prop} (h : Aside0 p) (e : p → q := by intro h;(with_reducible repeat (first|apply ra_|apply rn_|apply rd_));exact h) : q := e h.out
theorem qk_ {p q : Prop} (h : Aside0 p) (e : p → q := by intro h;(with_reducible repeat (first|refine kn_ ?_ _|refine kd_ ?_|refine ka_ ?_ _));exact h) : q := e h.out
theorem qb_ {p q : Prop} (h : Aside0 p) (e : p → q := by intro h;repeat (first|(with_reducible first|exact h|apply ba_|apply bn_|apply bd_)|exact h)) : q := e h.out
theorem qc_ {p q r : Prop} (h : Aside0 p) (g : Aside0 r) (e : p → r → q := by intro h g;repeat (first|(with_reducible first|exact h|apply ba_|apply bn_|apply bd_|refine bs_ ?_ g)|exact h)) : q := e h.out g.out
theorem qd_ {p q r s : Prop} (h : Aside0 p) (g : Aside0 r) (f : Aside0 s) (e : p → r → s → q := by intro h g f;repeat (first|(with_reducible first|exact h|apply ba_|apply bn_|apply bd_|refine bs_ ?_ g|refine bs_ ?_ f)|exact h)) : q := e h.out g.out f.out
theorem qm_ {p : Prop} (h : p := by (try simp only [List.map_toArray,List.map_cons,List.map_nil]);first|done|rfl|(simp only [List.length_drop,List.length_take];rfl)) : p := h
theorem qn_ {p q r : Prop} (h : Aside0 p) (g : Aside0 r) (e : p → r → q := by intro h g;repeat (first|exact (cb_ h g)|(with_reducible refine ca_ ?_ _)|(with_reducible refine cn_ ?_ _)|(with_reducible refine cd_ ?_))) : q := e h.out g.out
theorem qf_ {p : Prop} (h : p := by first|rfl|(simp;done)|(simp [*];done)) : p := h
theorem qe_ {p : Prop} (h : p := by first|rfl|(simp [errW_none,errW_some] <;> rfl)|(simp [*,errW_none,errW_some] <;> rfl)) : p := h
theorem qa_ {p : Prop} (h : p := by first|(with_reducible assumption)|assumption) : p := h
theorem sx_ {α : Type _} (l : List α) (i : Nat) (a : α) : l.toArray.setIfInBounds i a = (l.set i a).toArray := List.setIfInBounds_toArray l i a
theorem sy_ {α : Type _} (l : List α) (x a : α) : (x :: l).set 0 a = a :: l := List.set_cons_zero
theorem sz_ {α : Type _} (l : List α) (x a : α) (i : Nat) : (x :: l).set (i + 1) a = x :: l.set i a := List.set_cons_succ
theorem u0_ {p q : Prop} (h : Aside0 p) (e : p → q := by intro h ;repeat (first|(with_reducible first|exact h|apply ba_|apply bn_|apply bd_)|exact h)) : q := e h.out
theorem u1_ {p q r0 : Prop} (h : Aside0 p) (g0 : Aside0 r0) (e : p → r0 → q := by intro h g0;repeat (first|(with_reducible first|exact h|apply ba_|apply bn_|apply bd_|refine bs_ ?_ g0)|exact h)) : q := e h.out g0.out
theorem u2_ {p q r0 r1 : Prop} (h : Aside0 p) (g0 : Aside0 r0) (g1 : Aside0 r1) (e : p → r0 → r1 → q := by intro h g0 g1;repeat (first|(with_reducible first|exact h|apply ba_|apply bn_|apply bd_|refine bs_ ?_ g0|refine bs_ ?_ g1)|exact h)) : q := e h.out g0.out g1.out
theorem u3_ {p q : Prop} (h : Aside0 p) (e : p → q := by intro h ;repeat (first|(with_reducible first|exact h|apply Kept.alloc|apply Kept.drewN|apply Kept.drew)|exact h)) : q := e h.out
end Go.Proofs.Ytdpnloibbimblaa.PAll
