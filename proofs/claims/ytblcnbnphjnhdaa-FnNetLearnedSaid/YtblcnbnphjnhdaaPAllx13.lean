/- Proved here: contracts of functions of the given program, or lemmas on them, for the laws of this seat. Written by xprint.py, a program of this session, on the ground of the kit's print; parts by hand: wip/x/ext. -/
import Derived.Test.YtblcnbnphjnhdaaPAllx0
import Derived.Test.YtblcnbnphjnhdaaPAllx1
import Derived.Test.YtblcnbnphjnhdaaPAllx6
import Derived.Test.YtblcnbnphjnhdaaPAllx7
import Derived.Test.YtblcnbnphjnhdaaPAllx9
import Derived.Test.YtblcnbnphjnhdaaPAllx10
import Derived.Test.YtblcnbnphjnhdaaPAllx12
namespace Go.Proofs.Ytblcnbnphjnhdaa.PAll
open Go.RowKit Go.Proofs.YtblcnbnphjnhdaaW.PrintWords Go.Proofs.YtblcnbnphjnhdaaW.PrintLast Go.Proofs.YtblcnbnphjnhdaaW.PrintMore
attribute [local go_sem] max2_int min2_int max_two min_two max_three min_three max_four min_four   -- for this text's walks alone
set_option linter.unusedVariables false
set_option linter.unusedSimpArgs false

-- LIB pwnpairs
theorem wnPairs_same (l : List (List Int)) (hl : l.length ≤ 100) (hr : ∀ r ∈ l,r.length ≤ 20) (k : Nat) (hk : 300 < k) : laws_wnPairs.f k l l = some true:=by
 unfold laws_wnPairs.f
 rw [if_pos rfl]
 exact wnPairs_at l hl hr l.length k 0 (by omega) (by omega)

-- LIB pwnhasl
theorem wnHas_at (l : List Int) (x : Int) (hl : l.length ≤ 9223372036854775807) (d : Nat) : ∀ (k i : Nat),i + d = l.length → d < k → laws_wnHas.l0 k x l l.length (i : Int) = some (hasL (l.drop i) x):=by
 induction d with
 | zero =>
  intro k i h1 hk
  obtain ⟨k,rfl⟩ : ∃ m,k = m + 1:=⟨k - 1,by omega⟩
  simp only [laws_wnHas.l0]
  rw [if_neg (by omega),List.drop_of_length_le (by omega)]
  rfl
 | succ d ih =>
  intro k i h1 hk
  obtain ⟨k,rfl⟩ : ∃ m,k = m + 1:=⟨k - 1,by omega⟩
  simp only [laws_wnHas.l0]
  rw [if_pos (by omega),if_pos (by omega),if_pos (by omega),rd_get l i (by omega),wrap_succ (show i < l.length by omega) (by omega),ih k (i + 1) (by omega) (by omega),List.drop_eq_getElem_cons (show i < l.length by omega),hasL_cons]
  by_cases c : l[i] = x
  ·rw [if_pos c,decide_eq_true c,Bool.true_or]
  ·rw [if_neg c,decide_eq_false c,Bool.false_or]

-- LIB pwnhasl
theorem wnHas_eq (l : List Int) (x : Int) (hl : l.length ≤ 9223372036854775807) (k : Nat) (hk : l.length < k) : laws_wnHas.f k l x = some (hasL l x):=wnHas_at l x hl l.length k 0 (by omega) hk

-- LIB pnet
theorem has_mates {n : Int} {cs : List S83} {hs vs : List Int} {s x : Int} : hasL (matesX n cs hs vs s) x = true ↔ x ∈ matesX n cs hs vs s:=hasL_iff _ _

-- LIB lawrun
theorem run_both (n : Int) (cs : List S83) (hs vs : List Int) (l : List S37) : ∃ (tk ov : List (List Int)) (g : Bool), impl_RunNet.f n cs hs vs l = some (tk, ov, g) ∧ spec_RunNet.f n cs hs vs l = some (tk, ov, g) ∧ laws_wnPairs.f 4001 tk tk = some true ∧ laws_wnPairs.f 4001 ov ov = some true ∧
  (g = true → tk.length = l.length ∧ ov.length = l.length ∧ l.length ≤ 1000 ∧ ∀ i (hi : i < l.length),(ov.getD i []).length ≤ 20 ∧ MeetOK n cs hs vs l[i].f0 l[i].f1 (tk.getD i []) (ov.getD i []) ∧ ∀ g ∈ l.take i,g.f0 = l[i].f1 → (g.f1 = 15 ∨ g.f1 = l[i].f0) → l[i].f1 ∈ matesX n cs hs vs l[i].f0 → ov.getD i [] = wayX n cs hs vs l[i].f0 l[i].f1):=by
 cases hr : runB n cs hs vs l with
 | false =>
  obtain ⟨e1,e2⟩:=run_none hr
  have hp:=wnPairs_same [] (by simp) (fun _ h => by cases h) 4001 (by omega)
  exact ⟨[],[],false,e1,e2,hp,hp,fun h => by cases h⟩
 | true =>
  obtain ⟨tk,ov,e1,e2,e3,e4,hl,hn,t20,o20,hm⟩:=run_meet hr
  exact ⟨tk,ov,true,e1,e2,wnPairs_same tk (by omega) t20 _ (by omega),wnPairs_same ov (by omega) o20 _ (by omega),fun _ => ⟨e3,e4,by omega,fun i hi => ⟨by rw [getD_row _ _ (by omega)];exact o20 _ (List.getElem_mem _),(hm i hi).2⟩⟩⟩

-- LIB netask
theorem hop_at (l : List S37) (i : Nat) (h : i < l.length) : rd_T37 l (i : Int) = l[i]:=by simp [rd_T37,List.getD,h]

-- LIB netask
theorem row_at (l : List (List Int)) (i : Nat) : rd_L4 l (i : Int) = l.getD i []:=by unfold rd_L4;rw [Int.toNat_natCast]

-- LIB netask
theorem nbox4 {W : World} {b t : Nat} {a0 a1 a2 a3 : Value} (h : W.heap[b]? = some (.cells #[a0, a1, a2, a3] t (0, 0))) :
  W.cell? ⟨b,0,none⟩ = some a0 ∧ W.cell? ⟨b,1,none⟩ = some a1 ∧ W.cell? ⟨b,2,none⟩ = some a2 ∧ W.cell? ⟨b,3,none⟩ = some a3 :=
 ⟨(blk_cell h 0).trans rfl,(blk_cell h 1).trans rfl,(blk_cell h 2).trans rfl,(blk_cell h 3).trans rfl⟩

-- LIB netask
theorem nbox3 {W : World} {b t : Nat} {a0 a1 a2 : Value} (h : W.heap[b]? = some (.cells #[a0,a1,a2] t (0,0))) : W.cell? ⟨b,0,none⟩ = some a0 ∧ W.cell? ⟨b,1,none⟩ = some a1 ∧ W.cell? ⟨b,2,none⟩ = some a2 :=
 ⟨(blk_cell h 0).trans rfl,(blk_cell h 1).trans rfl,(blk_cell h 2).trans rfl⟩

-- LIB netask
theorem nbox2 {W : World} {b t : Nat} {a0 a1 : Value} (h : W.heap[b]? = some (.cells #[a0,a1] t (0,0))) : W.cell? ⟨b,0,none⟩ = some a0 ∧ W.cell? ⟨b,1,none⟩ = some a1:=⟨(blk_cell h 0).trans rfl,(blk_cell h 1).trans rfl⟩

end Go.Proofs.Ytblcnbnphjnhdaa.PAll
