/- Proved here: contracts of functions of the given program, or lemmas on them, for the laws of this seat. Written by xprint.py, a program of this session, on the ground of the kit's print; parts by hand: wip/x/ext. -/
import Derived.Test.YtdpnloibbimblaaPAllx0
import Derived.Test.YtdpnloibbimblaaPAllx1
import Derived.Test.YtdpnloibbimblaaPAllx2
namespace Go.Proofs.Ytdpnloibbimblaa.PAll
open Go.RowKit Go.Proofs.YtdpnloibbimblaaW.PrintWords Go.Proofs.YtdpnloibbimblaaW.PrintLast Go.Proofs.YtdpnloibbimblaaW.PrintMore
attribute [local go_sem] max2_int min2_int max_two min_two max_three min_three max_four min_four   -- for this text's walks alone
set_option linter.unusedVariables false
set_option linter.unusedSimpArgs false

-- LIB linkmodel
/-- The first number from k on, one of f, that is q round 16; d if there is none. -/
def seekF (q : Nat) : Nat → Nat → Nat → Nat
  | 0,_,d => d
  | f + 1,k,d => if k % 16 = q then k else seekF q f (k + 1) d
def seekL (kn win q : Nat) : Nat:=seekF q (win + 1) kn kn
/-- What the sender knows behind so many copies of an answer. -/
def hearL (bad : Bool) (win q : Nat) : Nat → Nat → Nat
  | 0,kn => kn
  | c + 1,kn => hearL bad win q c (if bad = true then kn else seekL kn win q)
/-- What the receiver has behind arrivals. -/
def takeL (list : List (List Int)) (known : Nat) (fs : List Int) : List Int → List (List Int) → List (List Int)
  | [],g => g
  | x :: r,g => takeL list known fs r (if fs.getD x.toNat 0 = 4 then g else if (known + x.toNat) % 16 = g.length % 16 then g ++ [list.getD (known + x.toNat) []] else g)
structure LS where
  got : List (List Int)
  known : Nat
  so : Nat
  si : Nat
  rounds : Nat
def manyL (list : List (List Int)) (win known : Nat) : Nat:=min list.length (known + win) - known
def gotL (win : Nat) (list : List (List Int)) (there : List Int) (s : LS) : List (List Int):=takeL list s.known (there.drop s.so) (arrI (there.drop s.so) (manyL list win s.known)) s.got
def knownL (win : Nat) (list : List (List Int)) (there back : List Int) (s : LS) : Nat:=hearL (decide ((back.drop s.si).getD 0 0 = 4)) win ((gotL win list there s).length % 16) (arrI (back.drop s.si) 1).length s.known
def roundL (win : Nat) (list : List (List Int)) (there back : List Int) (s : LS) : LS:=⟨gotL win list there s,knownL win list there back s,s.so + manyL list win s.known,s.si + 1,s.rounds + 1⟩
def runL (win : Nat) (list : List (List Int)) (there back : List Int) : Nat → LS → LS
  | 0,s => s
  | f + 1,s => if s.known < list.length then runL win list there back f (roundL win list there back s) else s
def startL : LS:=⟨[],0,0,0,0⟩
/-- The packets of a round. -/
def pkL (cf : List Int → Int) (list : List (List Int)) (known : Nat) (m : Nat) : List (List Int):=(List.range m).map fun i => pkt cf 1 (((known + i) % 16 : Nat) : Int) (list.getD (known + i) [])
theorem pkL_succ (cf : List Int → Int) (list : List (List Int)) (known m : Nat) : pkL cf list known (m + 1) = pkL cf list known m ++ [pkt cf 1 (((known + m) % 16 : Nat) : Int) (list.getD (known + m) [])]:=by
  unfold pkL
  rw [List.range_succ,List.map_append]
  rfl
theorem pkL_len (cf : List Int → Int) (list : List (List Int)) (known m : Nat) : (pkL cf list known m).length = m:=by unfold pkL;simp
theorem seekF_le (q f : Nat) : ∀ k d,seekF q f k d ≤ max d (k + f):=by
  induction f with
  | zero => intro k d;unfold seekF;omega
  | succ f ih =>
    intro k d
    unfold seekF
    split
    · omega
    · have:=ih (k + 1) d;omega
theorem seekL_le (kn win q : Nat) : seekL kn win q ≤ kn + win + 1:=by
  have:=seekF_le q (win + 1) kn kn
  unfold seekL
  omega
theorem hearL_le (bad : Bool) (win q c : Nat) : ∀ kn,hearL bad win q c kn ≤ kn + c * (win + 1):=by
  induction c with
  | zero => intro kn;unfold hearL;omega
  | succ c ih =>
    intro kn
    unfold hearL
    have h:=ih (if bad = true then kn else seekL kn win q)
    have h2:=seekL_le kn win q
    rw [Nat.succ_mul]
    split at h
    · rename_i hb;rw [if_pos hb];omega
    · rename_i hb;rw [if_neg hb];omega
theorem takeL_len (list : List (List Int)) (known : Nat) (fs : List Int) (r : List Int) : ∀ g,(takeL list known fs r g).length ≤ g.length + r.length:=by
  induction r with
  | nil => intro g;unfold takeL;simp
  | cons x r ih =>
    intro g
    unfold takeL
    refine Nat.le_trans (ih _) ?_
    simp only [List.length_cons]
    split
    · omega
    · split
      · simp;omega
      · omega
theorem takeL_snoc (list : List (List Int)) (known : Nat) (fs : List Int) (r : List Int) (x : Int) : ∀ g,takeL list known fs (r ++ [x]) g = (if fs.getD x.toNat 0 = 4 then takeL list known fs r g else if (known + x.toNat) % 16 = (takeL list known fs r g).length % 16 then takeL list known fs r g ++ [list.getD (known + x.toNat) []] else takeL list known fs r g):=by
  induction r with
  | nil => intro g;rfl
  | cons y r ih => intro g;exact ih _
theorem hearL_snoc (bad : Bool) (win q c : Nat) : ∀ kn,hearL bad win q (c + 1) kn = (if bad = true then hearL bad win q c kn else seekL (hearL bad win q c kn) win q):=by
  induction c with
  | zero => intro kn;rfl
  | succ c ih => intro kn;exact ih _
/-! Blocks -/
theorem blk_setl {w : World} {g t : Nat} {cs : Array Value} (h : w.heap[g]? = some (.cells cs t (0,0))) (i : Nat) (z : Value) : (w.setCell ⟨g,i,none⟩ z).heap[g]? = some (.cells (cs.setIfInBounds i z) t (0,0)):=by
  simp [World.setCell,Array.getElem?_modify,h]
theorem blk_seto {w : World} {g g2 : Nat} {o : Obj} (h : w.heap[g]? = some o) (hne : g ≠ g2) (i : Nat) (z : Value) : (w.setCell ⟨g2,i,none⟩ z).heap[g]? = some o:=(Below.heap_setCell _ _ _ _ hne).trans h
theorem C_one {W : World} {A : Option Addr} {c : Nat} {p : List Int} (hC : Kd.C (Kd.int .u8) W A p.length p) (hc : p.length ≤ c) :
    Kd.C (Kd.slice 5 (Kd.int .u8)) (W.alloc (.cells #[.slice A p.length c] 22)) (some ⟨W.heap.size,0,none⟩) 1 [p]:=by
  refine ⟨rfl,by decide,fun _ => ⟨_,rfl,fun j q hq => ?_⟩⟩
  cases j with
  | zero =>
    simp only [List.getElem?_cons_zero,Option.some.injEq] at hq
    subst hq
    refine ⟨[.slice A p.length c],rfl,⟨A,c,rfl,hc,Kd.C_alloc hC _⟩,fun i u hu => ?_⟩
    cases i with
    | zero =>
      simp only [List.getElem?_cons_zero,Option.some.injEq] at hu
      subst hu
      exact (blk_cell (blk_new W (.cells #[.slice A p.length c] 22)) 0).trans rfl
    | succ i => simp at hu
  | succ j => simp at hq
theorem pkL_le {cf : List Int → Int} {list : List (List Int)} (h : ∀ b ∈ list,b.length ≤ 597) (known m : Nat) : ∀ b ∈ pkL cf list known m,b.length ≤ 600:=by
  intro b hb
  unfold pkL at hb
  obtain ⟨i,_,rfl⟩:=List.mem_map.1 hb
  rw [pkt_len]
  have : (list.getD (known + i) []).length ≤ 597:=by
    rw [List.getD_eq_getElem?_getD]
    by_cases hj : known + i < list.length
    · rw [List.getElem?_eq_getElem hj];exact h _ (List.getElem_mem hj)
    · rw [List.getElem?_eq_none (by omega)];simp
  omega
theorem getD_bytes {list : List (List Int)} (h : ∀ b ∈ list,BytesL b) (i : Nat) : BytesL (list.getD i []):=by
  rw [List.getD_eq_getElem?_getD]
  by_cases hj : i < list.length
  · rw [List.getElem?_eq_getElem hj];exact h _ (List.getElem_mem hj)
  · rw [List.getElem?_eq_none (by omega)];intro x hx;simp at hx
theorem getD_le {list : List (List Int)} (h : ∀ b ∈ list,b.length ≤ 597) (i : Nat) : (list.getD i []).length ≤ 597:=by
  rw [List.getD_eq_getElem?_getD]
  by_cases hj : i < list.length
  · rw [List.getElem?_eq_getElem hj];exact h _ (List.getElem_mem hj)
  · rw [List.getElem?_eq_none (by omega)];simp
theorem pkL_get (cf : List Int → Int) (list : List (List Int)) (known m : Nat) (x : Int) (h0 : 0 ≤ x) (h1 : x < m) : rd_L4 (pkL cf list known m) x = pkt cf 1 (((known + x.toNat) % 16 : Nat) : Int) (list.getD (known + x.toNat) []):=by
  have hx : x.toNat < m:=by omega
  unfold rd_L4 pkL
  rw [List.getD_eq_getElem?_getD,List.getElem?_eq_getElem (by simp;exact hx)]
  simp
/-- What UnpackLink tells of an arrival. -/
theorem unp_ok {list : List (List Int)} (hl : ∀ b ∈ list, b.length ≤ 597) (hb : ∀ b ∈ list, BytesL b) (fs : List Int) (known m : Nat) (x : Int) (h0 : 0 ≤ x) (h1 : x < m) (hf : ¬ fs.getD x.toNat 0 = 4) :
    impl_UnpackLink.f 1001 (passB fs (pkL crcI list known m) x) = some (1,(((known + x.toNat) % 16 : Nat) : Int),list.getD (known + x.toNat) [],true):=by
  unfold passB
  rw [if_neg (fun h => hf h.1),pkL_get _ _ _ _ _ h0 h1]
  exact unpackI_ok 1 _ _ (by omega) (by omega) (by omega) (by omega) (getD_bytes hb _) (getD_le hl _) (by omega) 1001 (by omega)
theorem unp_bad {list : List (List Int)} (hl : ∀ b ∈ list, b.length ≤ 597) (hb : ∀ b ∈ list, BytesL b) (fs : List Int) (known m : Nat) (x : Int) (h0 : 0 ≤ x) (h1 : x < m) (hf : fs.getD x.toNat 0 = 4) :
    impl_UnpackLink.f 1001 (passB fs (pkL crcI list known m) x) = some (0,0,[],false):=by
  unfold passB
  rw [pkL_get _ _ _ _ _ h0 h1,if_pos ⟨hf,by rw [pkt_len];omega⟩]
  exact unpackI_bad 1 _ _ (by omega) (by omega) (by omega) (by omega) (getD_bytes hb _) (getD_le hl _) 1001 (by omega)
theorem ne_own {α : Type} {d : Kd α} {e base : Nat} {ok : Nat → Prop} {w : World} {v : Value} {xs : List α} {g t : Nat} {cells : Array Value} (h : Kd.S d e w base ok v xs) (hg : w.heap[g]? = some (.cells cells t (0,0))) (ht : e ≠ t) : some g ≠ v.ownBlock:=fun he => by
  obtain ⟨cs,hc⟩:=Kd.S_typed h g he.symm
  rw [hg] at hc
  injection hc with hc
  injection hc with _ h2 _
  exact ht h2.symm
theorem one_get (bs : List Int) (p : List Int) (kk : Nat) (h : kk < (arrI bs 1).length) : rd_L4 ((arrI bs 1).map (passB bs [p])) (kk : Int) = passB bs [p] 0:=by
  have hx:=arrI_in bs 1 _ (List.getElem_mem h)
  have e : (arrI bs 1)[kk] = 0:=by omega
  simp [rd_L4,List.getD_eq_getElem?_getD,h,e]
theorem unp_back_bad (bs : List Int) (q : Int) (h0 : 0 ≤ q) (h1 : q < 16) (hf : bs.getD 0 0 = 4) : impl_UnpackLink.f 1001 (passB bs [pkt crcI 2 q []] 0) = some (0,0,[],false):=by
  unfold passB
  rw [if_pos ⟨hf,by show 0 < (pkt crcI 2 q []).length;rw [pkt_len];omega⟩]
  exact unpackI_bad 2 q [] (by omega) (by omega) h0 h1 (fun x hx => by simp at hx) (by simp) 1001 (by omega)
theorem unp_back_ok (bs : List Int) (q : Int) (h0 : 0 ≤ q) (h1 : q < 16) (hf : ¬ bs.getD 0 0 = 4) : impl_UnpackLink.f 1001 (passB bs [pkt crcI 2 q []] 0) = some (2,q,[],true):=by
  unfold passB
  rw [if_neg (fun h => hf h.1)]
  exact unpackI_ok 2 q [] (by omega) (by omega) h0 h1 (fun x hx => by simp at hx) (by simp) (fun _ => rfl) 1001 (by omega)
def bytesB (l : List (List Int)) : Bool:=l.all fun b => b.all fun x => decide (0 ≤ x) && decide (x < 256)
theorem bytesB_iff {l : List (List Int)} : bytesB l = true ↔ ∀ b ∈ l,BytesL b:=by
  unfold bytesB BytesL
  simp only [List.all_eq_true,Bool.and_eq_true,decide_eq_true_eq]

-- LIB pass
/-- What is left of a wire's fates behind so many messages. -/
theorem fatesB_drop {l : List Int} (h : fatesB l = true) (n : Nat) : fatesB (l.drop n) = true:=by
  unfold fatesB at h ⊢
  simp only [Bool.and_eq_true,decide_eq_true_eq,List.all_eq_true] at h ⊢
  exact ⟨by rw [List.length_drop];omega,fun x hx => h.2 x (List.mem_of_mem_drop hx)⟩
theorem fatesB_len {l : List Int} (h : fatesB l = true) : l.length ≤ 200:=by
  unfold fatesB at h
  simp only [Bool.and_eq_true,decide_eq_true_eq] at h
  exact h.1
theorem fb_eq {l : List Int} (h : fatesB l = true) (n : Nat) : impl_FatesBehind.f l n = some (l.drop n):=by
  have hl:=fatesB_len h
  unfold impl_FatesBehind.f
  rw [show impl_FatesValid.f l = some true from by show some (fatesB l) = some true;rw [h]]
  rw [Option.bind_some,if_pos rfl,if_neg (by omega)]
  have hm : mn (n : Int) (l.length : Int) = ((min n l.length : Nat) : Int):=by unfold mn;split <;> omega
  rw [hm,if_pos (by omega),if_pos (by omega),Int.toNat_natCast]
  have hd : l.drop (min n l.length) = l.drop n:=by
    by_cases c : n ≤ l.length
    · rw [Nat.min_eq_left c]
    · rw [Nat.min_eq_right (by omega),List.drop_length,List.drop_eq_nil_of_le (by omega)]
  rw [hd]
  unfold slices_Clone_int_int.f
  have : (l.drop n).length ≤ 200:=by rw [List.length_drop];omega
  simp
  try omega
/-- A store into a block of another type leaves a row of rows as it is. -/
theorem S_other {α : Type} {d : Kd α} {e base : Nat} {ok : Nat → Prop} {w : World} {v : Value} {xs : List α} {g t : Nat} {cells : Array Value} (h : Kd.S d e w base ok v xs) (hg : w.heap[g]? = some (.cells cells t (0,0))) (ht : ∀ q,q ∈ e :: d.E → q ≠ t) (o : Nat) (z : Value) : Kd.S d e (w.setCell ⟨g,o,none⟩ z) base ok v xs:=by
  refine Kd.S_mono (Kd.S_step (Kd.S_bound h) (fun k hk _ => ?_)) (fun k hk => hk.1)
  by_cases e1 : k = g
  · subst e1
    obtain ⟨_,_,_,q,hq,cs,hcs⟩:=hk
    rw [hg] at hcs
    injection hcs with hcs
    injection hcs with _ h2 _
    exact absurd h2.symm (ht q hq)
  · exact Below.heap_setCell _ _ _ _ e1
set_option maxHeartbeats 8000000 in
set_option maxRecDepth 100000 in
theorem x_pass (gw : Nat) (so : Nat) (A0 : Option Addr) (c0 : Nat) (l0 : List Int) (A1 : Option Addr) (c1 : Nat) (l1 : List (List Int)) (w : World) (hn : l1.length ≤ 8) (hso : so ≤ 100000) (hv : fatesB l0 = true) (hlb : ∀ b ∈ l1, b.length ≤ 600)
    (hr0 : Kd.C (Kd.int .i64) w A0 l0.length l0) (hc0 : l0.length ≤ c0) (hr1 : Kd.C (Kd.slice 5 (Kd.int .u8)) w A1 l1.length l1)
    (hg : w.heap[gw]? = some (.cells #[.slice A0 l0.length c0,.int .i64 so] 52)) :
    Calls Try.prog 33 #[.pointer (some ⟨gw,0,none⟩),.slice A1 l1.length c1] w fun e w' => ∃ (v : Value) (w2 : World),e = .returned v ∧ w' = w2.setCell ⟨gw,1,none⟩ (.int .i64 ((so : Int) + (l1.length : Int))) ∧ Kd.S (Kd.slice 5 (Kd.int .u8)) 22 w2 w.heap.size (fun _ => True) v (passL (l0.drop so) l1) ∧ Below w.heap.size w w2:=by
  have hfb:=fun W (hW : Below w.heap.size w W) => impl_FatesBehind.calls A0 c0 l0 so (l0.drop so) W (Kd.C_below hr0 hW) hc0 (fb_eq hv so)
  have hpw:=fun A c W (hW : Below w.heap.size w W) (hC : Kd.C (Kd.int .i64) W A (l0.drop so).length (l0.drop so)) (hc : (l0.drop so).length ≤ c) => x_PassWire A c (l0.drop so) A1 c1 l1 W hn (fatesB_drop hv so) hlb hC hc (Kd.C_below hr1 hW)
  have k0 : w.cell? ⟨gw,0,none⟩ = some (.slice A0 l0.length c0):=(blk_cell hg 0).trans rfl
  have k1 : w.cell? ⟨gw,1,none⟩ = some (.int .i64 so):=(blk_cell hg 1).trans rfl
  have hu:=Try.underlying52
  have hgl : gw < w.heap.size:=blk_lt hg
  have HG:=Aside0.mk hg
  have HFB:=Aside0.mk hfb
  have HPW:=Aside0.mk hpw
  generalize passL (l0.drop so) l1 = ps at HPW ⊢
  generalize l0.drop so = ds at HFB HPW
  clear hr0 hc0 hr1 hv hlb hfb hpw hg
  go_enter Try.func33,Try.ntmps33
  go_wp2_with fail
  go_region_held3 (fun w' => w'.cell? ⟨gw,0,none⟩ = some (.slice A0 l0.length c0) ∧ w'.cell? ⟨gw,1,none⟩ = some (.int .i64 so)) (go_keep)
    (first
      | (go_at_call 54;refine (HFB.out _ (below_drew1 (Below.refl _ _))).mono ?_;rintro e w1 ⟨v1,rfl,ho1,hb1⟩;obtain ⟨A2,c2,rfl⟩:=Kd.R_slice ho1;have HB1:=Aside0.mk (below_step (below_drew1 (Below.refl _ _)) hb1);have HR1:=Aside0.mk (Kd.R_reads' ho1).2.2;have HC1:=Aside0.mk (Kd.R_reads' ho1).2.1;have m0:=(HB1.out.cell (p:=⟨gw,0,none⟩) hgl).trans k0;have m1:=(HB1.out.cell (p:=⟨gw,1,none⟩) hgl).trans k1;clear ho1 hb1)
      | (go_at_call 53;refine (HPW.out A2 c2 _ HB1.out HR1.out HC1.out).mono ?_;rintro e w3 ⟨v3,rfl,ho3,hb3⟩;have HB3:=Aside0.mk (below_step HB1.out hb3);have HO3:=Aside0.mk (Kd.S_lower ho3 HB1.out.size);have n0:=(HB3.out.cell (p:=⟨gw,0,none⟩) hgl).trans k0;have n1:=(HB3.out.cell (p:=⟨gw,1,none⟩) hgl).trans k1;clear ho3 hb3))
  have HN3:=blk_below HG.out HB3.out
  have f1:=blk_frozen HN3 1
  clear HFB HPW HN3
  go_wp2
  go_ret
  exact ⟨_,_,rfl,by simp,HO3.out,HB3.out⟩

-- LIB runlink
set_option maxHeartbeats 16000000 in
set_option maxRecDepth 1000000 in
theorem x_RunLink (win rounds : Nat) (A1 : Option Addr) (c1 : Nat) (l1 : List (List Int)) (A2 : Option Addr) (c2 : Nat) (l2 : List Int) (A3 : Option Addr) (c3 : Nat) (l3 : List Int) (w : World) (hok : linkB win l1 l2 l3 rounds = true) (hby : ∀ b ∈ l1, BytesL b)
    (hr1 : Kd.C (Kd.slice 5 (Kd.int .u8)) w A1 l1.length l1) (hc1 : l1.length ≤ c1) (hr2 : Kd.C (Kd.int .i64) w A2 l2.length l2) (hc2 : l2.length ≤ c2) (hr3 : Kd.C (Kd.int .i64) w A3 l3.length l3) (hc3 : l3.length ≤ c3) :
    Calls Try.prog 10 #[.int .i64 win,.slice A1 l1.length c1,.slice A2 l2.length c2,.slice A3 l3.length c3,.int .i64 rounds] w fun e w' => ∃ v : Value,
      e = .returned (.tuple #[.agg #[v,.int .i64 (runL win l1 l2 l3 rounds startL).rounds,.int .i64 (((runL win l1 l2 l3 rounds startL).so : Int) + (runL win l1 l2 l3 rounds startL).si),.bool (decide (l1.length ≤ (runL win l1 l2 l3 rounds startL).known))],.bool true]) ∧
      Kd.S (Kd.slice 5 (Kd.int .u8)) 22 w' w.heap.size (fun _ => True) v (runL win l1 l2 l3 rounds startL).got ∧ Below w.heap.size w w':=by
  have hu:=Try.underlying28
  have hu2:=Try.underlying52
  have hb0 : Below w.heap.size w (w.alloc (.cells #[.slice none 0 0,.int .i64 0,.int .i64 0,.bool false] 28)):=below_alloc (Below.refl _ w) _
  have hn0:=blk_new w (.cells #[.slice none 0 0,.int .i64 0,.int .i64 0,.bool false] 28)
  have hlk:=fun W (hW : Below w.heap.size w W) => impl_linkOk.calls win A1 c1 l1 A2 c2 l2 A3 c3 l3 rounds true W (Kd.C_below hr1 hW) hc1 (Kd.C_below hr2 hW) hc2 (Kd.C_below hr3 hW) hc3 (by show some _ = some _;rw [hok])
  have hb:=hok
  unfold linkB at hb
  simp only [Bool.and_eq_true,decide_eq_true_eq,List.all_eq_true] at hb
  obtain ⟨⟨hw1,hw2⟩,hn,hll,hf2,hf3,hro0,hro⟩:=hb
  have HR1:=Aside0.mk hr1
  have HR2:=Aside0.mk hr2
  have HR3:=Aside0.mk hr3
  have HC2:=Aside0.mk hc2
  have HC3:=Aside0.mk hc3
  have HLL:=Aside0.mk hll
  have HBY:=Aside0.mk hby
  have HF2:=Aside0.mk hf2
  have HF3:=Aside0.mk hf3
  have HB0:=Aside0.mk hb0
  have HN0:=Aside0.mk hn0
  have HLK:=Aside0.mk hlk
  obtain ⟨fin,hfin⟩ : ∃ fin,fin = runL win l1 l2 l3 rounds startL:=⟨_,rfl⟩
  rw [← hfin]
  have HFIN:=Aside0.mk hfin
  clear hr1 hr2 hr3 hc1 hc2 hc3 hll hby hf2 hf3 hb0 hn0 hlk hok hfin
  go_enter Try.func10,Try.ntmps10
  go_wp2_with fail
  refine (HLK.out _ HB0.out).mono ?_
  rintro e w1 ⟨rfl,hb1⟩
  have HB1:=Aside0.mk (below_step HB0.out hb1)
  have HN1:=Aside0.mk (blk_below HN0.out hb1)
  have HS1 : Aside0 (w.heap.size + 1 ≤ w1.heap.size):=⟨by have:=hb1.size;simp at this;omega⟩
  clear hb1 HB0 HN0 HLK
  go_wp2_with fail
  have hba:=below_alloc (below_alloc (below_alloc HB1.out (.cells #[.slice none 0 0,.int .i64 0,.int .i64 0,.bool false] 28)) (.cells #[.slice A2 l2.length c2,.int .i64 0] 52)) (.cells #[.slice A3 l3.length c3,.int .i64 0] 52)
  have hz1 : (w1.alloc (.cells #[.slice none 0 0,.int .i64 0,.int .i64 0,.bool false] 28)).heap.size = w1.heap.size + 1:=by simp
  have hz2 : ((w1.alloc (.cells #[.slice none 0 0,.int .i64 0,.int .i64 0,.bool false] 28)).alloc (.cells #[.slice A2 l2.length c2,.int .i64 0] 52)).heap.size = w1.heap.size + 1 + 1:=by simp
  have hnr:=blk_alloc (blk_alloc (blk_new w1 (.cells #[.slice none 0 0,.int .i64 0,.int .i64 0,.bool false] 28)) (.cells #[.slice A2 l2.length c2,.int .i64 0] 52)) (.cells #[.slice A3 l3.length c3,.int .i64 0] 52)
  have hno:=blk_alloc (blk_new (w1.alloc (.cells #[.slice none 0 0,.int .i64 0,.int .i64 0,.bool false] 28)) (.cells #[.slice A2 l2.length c2,.int .i64 0] 52)) (.cells #[.slice A3 l3.length c3,.int .i64 0] 52)
  have hni:=blk_new ((w1.alloc (.cells #[.slice none 0 0,.int .i64 0,.int .i64 0,.bool false] 28)).alloc (.cells #[.slice A2 l2.length c2,.int .i64 0] 52)) (.cells #[.slice A3 l3.length c3,.int .i64 0] 52)
  have hne:=blk_alloc (blk_alloc (blk_alloc HN1.out (.cells #[.slice none 0 0,.int .i64 0,.int .i64 0,.bool false] 28)) (.cells #[.slice A2 l2.length c2,.int .i64 0] 52)) (.cells #[.slice A3 l3.length c3,.int .i64 0] 52)
  rw [hz1] at hno
  rw [hz2] at hni
  clear hz1 hz2 HN1 HB1
  generalize ((w1.alloc (.cells #[.slice none 0 0,.int .i64 0,.int .i64 0,.bool false] 28)).alloc (.cells #[.slice A2 l2.length c2,.int .i64 0] 52)).alloc (.cells #[.slice A3 l3.length c3,.int .i64 0] 52) = W0 at hba hnr hno hni hne ⊢
  generalize hgr : w1.heap.size = gr at hnr hno hni HS1 ⊢
  clear hgr
  have HBA:=Aside0.mk hba
  have HNR:=Aside0.mk hnr
  have HNO:=Aside0.mk hno
  have HNI:=Aside0.mk hni
  have HNE:=Aside0.mk hne
  clear hba hnr hno hni hne
  go_loopg [15] rounds (fun gg s15 wr => ∃ (s : LS) (gv : Value),s.rounds ≤ rounds ∧ rounds - s.rounds ≤ gg ∧ s15 = .int .i64 (s.known : Int) ∧ s.known ≤ 77 ∧ s.so ≤ 8 * s.rounds ∧ Aside0 (s.si = s.rounds) ∧ s.got.length ≤ 16 * s.rounds ∧
    Aside0 (fin = runL win l1 l2 l3 (rounds - s.rounds) s) ∧ Aside0 (Kd.S (Kd.slice 5 (Kd.int .u8)) 22 wr w.heap.size (fun _ => True) gv s.got) ∧
    Aside0 (wr.heap[gr]? = some (.cells #[gv,.int .i64 s.rounds,.int .i64 0,.bool false] 28 (0,0))) ∧ Aside0 (wr.heap[gr + 1]? = some (.cells #[.slice A2 l2.length c2,.int .i64 s.so] 52 (0,0))) ∧
    Aside0 (wr.heap[gr + 1 + 1]? = some (.cells #[.slice A3 l3.length c3,.int .i64 s.si] 52 (0,0))) ∧ Aside0 (wr.heap[w.heap.size]? = some (.cells #[.slice none 0 0,.int .i64 0,.int .i64 0,.bool false] 28 (0,0))) ∧ Aside0 (Below w.heap.size w wr))
  case atStart => exact ⟨startL,.slice none 0 0,Nat.zero_le _,Nat.le_refl _,rfl,by simp [startL],Nat.zero_le _,⟨rfl⟩,Nat.zero_le _,HFIN,⟨Kd.S_nil _ _ _ _ _⟩,HNR,HNO,HNI,HNE,HBA⟩
  case round =>
    clear HFIN HNR HNO HNI HNE HBA
    obtain ⟨s,gv,hr1,hgg,rfl,hkn,hso,HSI,hgl,HF,HO,HNR,HNO,HNI,HNE,BW⟩:=hrel
    have hsi1 : s.si ≤ 100000:=by have:=HSI.out;omega
    by_cases hgo : s.known < l1.length ∧ s.rounds < rounds
    · obtain ⟨hk,hr⟩:=hgo
      obtain ⟨m,hm⟩ : ∃ m,m = manyL l1 win s.known:=⟨_,rfl⟩
      have hm1 : s.known + m = min l1.length (s.known + win):=by rw [hm];unfold manyL;omega
      have hm8 : m ≤ 8:=by omega
      have HM:=Aside0.mk hm
      clear hm
      have k0 : wr.cell? ⟨gr,0,none⟩ = some gv:=(blk_cell HNR.out 0).trans rfl
      have k1 : wr.cell? ⟨gr,1,none⟩ = some (.int .i64 s.rounds):=(blk_cell HNR.out 1).trans rfl
      have f1:=blk_frozen HNR.out 1
      have p1 : ((s.known : Int) < (l1.length : Int)) = True:=eq_true (by omega)
      have p2 : ((s.rounds : Int) < (rounds : Int)) = True:=eq_true (by omega)
      go_wp2_with fail
      have hgg1 : w.heap.size ≤ gr:=by have:=HS1.out;omega
      have HNR1:=Aside0.mk (blk_setl HNR.out 1 (.int .i64 ((s.rounds : Int) + 1)))
      have HNO1:=Aside0.mk (blk_seto HNO.out (show gr + 1 ≠ gr by omega) 1 (.int .i64 ((s.rounds : Int) + 1)))
      have HNI1:=Aside0.mk (blk_seto HNI.out (show gr + 1 + 1 ≠ gr by omega) 1 (.int .i64 ((s.rounds : Int) + 1)))
      have HNE1:=Aside0.mk (blk_seto HNE.out (show w.heap.size ≠ gr by have:=HS1.out;omega) 1 (.int .i64 ((s.rounds : Int) + 1)))
      have HO1:=Aside0.mk (S_other HO.out HNR.out (by decide) 1 (.int .i64 ((s.rounds : Int) + 1)))
      have BW1:=Aside0.mk (BW.out.setCell (p:=⟨gr,1,none⟩) hgg1 (.int .i64 ((s.rounds : Int) + 1)))
      clear k0 k1 f1 p1 p2 HNR HNO HNI HNE HO BW hgg1
      generalize wr.setCell ⟨gr,1,none⟩ (.int .i64 ((s.rounds : Int) + 1)) = W1 at HNR1 HNO1 HNI1 HNE1 HO1 BW1 ⊢
      obtain ⟨wo,HO9,HB9⟩ : ∃ wo : World,Aside0 (wo = W1) ∧ Aside0 (wo = W1):=⟨W1,⟨rfl⟩,⟨rfl⟩⟩
      clear HO9 HB9
      go_loopg [16,17] m (fun gg s16 s17 wr => ∃ (jj : Nat) (v : Value),jj ≤ m ∧ m - jj ≤ gg ∧ v = s16 ∧ s17 = .int .i64 ((s.known + jj : Nat) : Int) ∧ Aside0 (Kd.S (Kd.slice 5 (Kd.int .u8)) 22 wr W1.heap.size (fun _ => True) v (pkL crcI l1 s.known jj)) ∧ Aside0 (Below W1.heap.size W1 wr))
      case atStart => exact ⟨0,_,Nat.zero_le _,Nat.le_refl _,rfl,by simp,⟨Kd.S_nil _ _ _ _ _⟩,⟨Below.refl _ _⟩⟩
      case round =>
        obtain ⟨jj,v,hjj,hg2,rfl,rfl,HP,BP⟩:=hrel
        have pmin : (if (s.known : Int) + (win : Int) < (l1.length : Int) then (s.known : Int) + (win : Int) else (l1.length : Int)) = (s.known : Int) + (m : Int):=by split <;> omega
        by_cases hlt : jj < m
        · have p1 : ((jj : Int) < (m : Int)) = True:=eq_true (by omega)
          have p2 : (jj < m) = True:=eq_true hlt
          have p3 : ((s.known : Int) + (jj : Int) < (s.known : Int) + (m : Int)) = True:=eq_true (by omega)
          have hj : s.known + jj < l1.length:=by omega
          obtain ⟨ad,A',c',e,hx,hlc,hC⟩:=at_L4 (Kd.C_below HR1.out (below_step BW1.out BP.out)) ((s.known : Int) + (jj : Int)) (by omega) (by omega)
          cases e
          have hge : rd_L4 l1 ((s.known : Int) + (jj : Int)) = l1.getD (s.known + jj) []:=by rw [show (s.known : Int) + (jj : Int) = ((s.known + jj : Nat) : Int) from by omega];rfl
          rw [hge,show ((s.known : Int) + (jj : Int)).toNat = s.known + jj from by omega] at hx
          rw [hge] at hlc hC
          have hmem : l1.getD (s.known + jj) [] ∈ l1:=by simp [List.getD_eq_getElem?_getD,hj]
          have q1 : (0 ≤ (s.known : Int) + (jj : Int)) = True:=eq_true (by omega)
          have q2 : ((s.known : Int) + (jj : Int) < (l1.length : Int)) = True:=eq_true (by omega)
          have hpk:=impl_PackLink.calls 1001 1 (((s.known + jj) % 16 : Nat) : Int) A' c' (l1.getD (s.known + jj) []) _ true wr hC hlc (packI 1 (((s.known + jj) % 16 : Nat) : Int) (l1.getD (s.known + jj) []) (by omega) (by omega) (by omega) (by omega) (HBY.out _ hmem) (HLL.out _ hmem) (by omega) 1001 (by omega))
          have HPS : Aside0 (pkL crcI l1 s.known (jj + 1) = pkL crcI l1 s.known jj ++ [pkt crcI 1 (((s.known + jj) % 16 : Nat) : Int) (l1.getD (s.known + jj) [])]):=⟨pkL_succ _ _ _ _⟩
          have HPL:=Aside0.mk (pkL_len crcI l1 s.known jj)
          have e16 : (((s.known + jj) % 16 : Nat) : Int) = ((s.known : Int) + (jj : Int)) % 16:=by omega
          generalize pkt crcI 1 (((s.known + jj) % 16 : Nat) : Int) (l1.getD (s.known + jj) []) = pk at hpk HPS
          rw [e16] at hpk
          generalize l1.getD (s.known + jj) [] = b at hpk hx hmem hlc hC
          generalize pkL crcI l1 s.known jj = T1 at HP HPS HPL
          have HPK:=Aside0.mk hpk
          clear hmem hge hpk hlc hC e16
          have hl8 : T1.length + 1 ≤ 9:=by have:=HPL.out;omega
          go_wp2_with (first | (go_at_call 32;refine HPK.out.mono ?_;rintro e w2 ⟨v1,rfl,ho1,hb1⟩;obtain ⟨A4,c4,rfl⟩:=Kd.R_slice ho1;have HO2:=Aside0.mk (Kd.R_lower ho1 BP.out.size);have HE:=Aside0.mk (Kd.S_mono (ok':=fun k => some k ≠ (Value.slice A4 pk.length c4).ownBlock) (Kd.S_elder' HP.out (Kd.R_base ho1) hb1) (fun k hk => hk.2));have BP2:=Aside0.mk (below_step BP.out hb1);clear ho1 hb1) | ((with_reducible refine gate_builtin (b:=.append) (xs:=#[.tmp 82,.tmp 84]) rfl ?_);at_builtin;refine Kd.S_append (Kd.slice 5 (Kd.int .u8)) (w0:=W1) W1.heap.size rfl (.tmp 82) (.tmp 84) 23 22 (.slice none 0 0) 24 rfl Try.underlying23 (by kernel_rfl) rfl (by decide) (by omega) v T1 pk [.slice A4 pk.length c4] (fun _ => True) (fun k_ => some k_ = (Value.slice A4 pk.length c4).ownBlock) rfl rfl ?aP ?aK ?aF ?aO ?aB ?aS ?aL ?_;(case aP => exact Kd.M_row (Kd.R_tight rfl HO2.out));(case aK => exact fun k hk => ⟨trivial,fun he => by have h1:=(Kd.R_apart' HO2.out (Kd.S_typed HE.out) (by decide)).1 k hk.symm;exact h1.2 he⟩);(case aF => exact (fun _ _ => trivial));(case aO => exact Kd.S_mono HE.out (fun k hk => ⟨trivial,fun e_ => hk e_⟩));(case aB => exact BP2.out);(case aS => exact BP2.out.size);(case aL => omega);intro v2 w3 ho2 hb2 _ _;have HP3:=Aside0.mk ho2;have BP3:=Aside0.mk hb2;clear ho2 hb2))
          rw [← HPS.out] at HP3
          go_roundg (m - (jj + 1))
          case measure => omega
          case rel => exact ⟨jj + 1,v2,by omega,by omega,rfl,by go_num,HP3,BP3⟩
        · have e : m = jj:=by omega
          subst e
          clear hlt hg2 hjj
          obtain ⟨Ap,cp,rfl⟩:=Kd.S_slice HP.out
          have p3 : ((m : Int) < (m : Int)) = False:=eq_false (by omega)
          have p4 : ((s.known : Int) + (m : Int) < (s.known : Int) + (m : Int)) = False:=eq_false (by omega)
          have hps:=x_pass (gr + 1) s.so A2 c2 l2 Ap cp (pkL crcI l1 s.known m) wr (by rw [pkL_len];exact hm8) (by omega) HF2.out (pkL_le HLL.out _ _) (Kd.C_below HR2.out (below_step BW1.out BP.out)) HC2.out (Kd.S_reads' HP.out).2.2 (blk_below HNO1.out BP.out)
          have HPL : Aside0 (passL (l2.drop s.so) (pkL crcI l1 s.known m) = (arrI (l2.drop s.so) m).map (passB (l2.drop s.so) (pkL crcI l1 s.known m))):=⟨by unfold passL;rw [pkL_len]⟩
          have HPS:=Aside0.mk hps
          clear hps
          go_wp2_with fail
          refine HPS.out.mono ?_
          rintro e W2 ⟨av,w2,rfl,rfl,ha2,hb2⟩
          rw [HPL.out] at ha2
          obtain ⟨Aa,ca,rfl⟩:=Kd.S_slice ha2
          rw [pkL_len]
          have hgw : w.heap.size ≤ wr.heap.size:=(below_step BW1.out BP.out).size
          have HNR2:=Aside0.mk (blk_seto (blk_below (blk_below HNR1.out BP.out) hb2) (show gr ≠ gr + 1 by omega) 1 (.int .i64 ((s.so : Int) + (m : Int))))
          have HNI2:=Aside0.mk (blk_seto (blk_below (blk_below HNI1.out BP.out) hb2) (show gr + 1 + 1 ≠ gr + 1 by omega) 1 (.int .i64 ((s.so : Int) + (m : Int))))
          have HNE2:=Aside0.mk (blk_seto (blk_below (blk_below HNE1.out BP.out) hb2) (show w.heap.size ≠ gr + 1 by have:=HS1.out;omega) 1 (.int .i64 ((s.so : Int) + (m : Int))))
          have hnoa:=blk_below (blk_below HNO1.out BP.out) hb2
          have HNO2:=Aside0.mk (blk_setl hnoa 1 (.int .i64 ((s.so : Int) + (m : Int))))
          have HO2:=Aside0.mk (S_other (Kd.S_below (Kd.S_below HO1.out BP.out) hb2) hnoa (by decide) 1 (.int .i64 ((s.so : Int) + (m : Int))))
          have HA2:=Aside0.mk (S_other (Kd.S_mono (ok':=fun k => some k ≠ gv.ownBlock) (Kd.S_lower (Kd.S_new' ha2 (Kd.S_lt (Kd.S_below HO1.out BP.out))) hgw) (fun k hk => hk.2)) hnoa (by decide) 1 (.int .i64 ((s.so : Int) + (m : Int))))
          have BW2:=Aside0.mk ((below_step (below_step BW1.out BP.out) hb2).setCell (p:=⟨gr + 1,1,none⟩) (by have:=HS1.out;show w.heap.size ≤ gr + 1;omega) (.int .i64 ((s.so : Int) + (m : Int))))
          clear ha2 hb2 hnoa hgw HPS HP BP HNR1 HNO1 HNI1 HNE1 HO1 BW1 HPL
          generalize w2.setCell ⟨gr + 1,1,none⟩ (.int .i64 ((s.so : Int) + (m : Int))) = W2 at HNR2 HNO2 HNI2 HNE2 HO2 HA2 BW2 ⊢
          have hal : (arrI (l2.drop s.so) m).length ≤ 16:=by have:=arrI_len (l2.drop s.so) m;omega
          have HAI:=Aside0.mk (arrI_in (l2.drop s.so) m)
          have HGL : Aside0 (gotL win l1 l2 s = takeL l1 s.known (l2.drop s.so) (arrI (l2.drop s.so) m) s.got):=⟨by unfold gotL;rw [← HM.out]⟩
          generalize l2.drop s.so = fs at HNR2 HNO2 HNI2 HNE2 HO2 HA2 BW2 hal HAI HGL ⊢
          generalize arrI fs m = arr at HNR2 HNO2 HNI2 HNE2 HO2 HA2 BW2 hal HAI HGL ⊢
          have hpl : (arr.map (passB fs (pkL crcI l1 s.known m))).length = arr.length:=List.length_map _
          rw [hpl] at HA2 ⊢
          clear hpl
          go_wp2_with fail
          obtain ⟨wo,HO9,HB9⟩ : ∃ wo : World,Aside0 (wo = W2) ∧ Aside0 (wo = W2):=⟨W2,⟨rfl⟩,⟨rfl⟩⟩
          clear HO9 HB9 p3 p4 pmin
          go_loopg [89] arr.length (fun gg s89 wr => ∃ (kk : Nat) (g : List (List Int)) (gv : Value),kk ≤ arr.length ∧ arr.length - kk ≤ gg ∧ s89 = .int .i64 (kk : Int) ∧ g.length ≤ s.got.length + kk ∧ Aside0 (g = takeL l1 s.known fs (arr.take kk) s.got) ∧
            Aside0 (Kd.S (Kd.slice 5 (Kd.int .u8)) 22 wr w.heap.size (fun _ => True) gv g) ∧ Aside0 (Kd.S (Kd.slice 5 (Kd.int .u8)) 22 wr w.heap.size (fun k => some k ≠ gv.ownBlock) (.slice Aa arr.length ca) (arr.map (passB fs (pkL crcI l1 s.known m)))) ∧
            Aside0 (wr.heap[gr]? = some (.cells #[gv,.int .i64 ((s.rounds : Int) + 1),.int .i64 0,.bool false] 28 (0,0))) ∧ Aside0 (wr.heap[gr + 1]? = some (.cells #[.slice A2 l2.length c2,.int .i64 ((s.so : Int) + (m : Int))] 52 (0,0))) ∧
            Aside0 (wr.heap[gr + 1 + 1]? = some (.cells #[.slice A3 l3.length c3,.int .i64 s.si] 52 (0,0))) ∧ Aside0 (wr.heap[w.heap.size]? = some (.cells #[.slice none 0 0,.int .i64 0,.int .i64 0,.bool false] 28 (0,0))) ∧ Aside0 (Below w.heap.size w wr))
          case atStart => exact ⟨0,s.got,gv,Nat.zero_le _,Nat.le_refl _,rfl,Nat.le_refl _,⟨rfl⟩,HO2,HA2,HNR2,HNO2,HNI2,HNE2,BW2⟩
          case round =>
            clear HO2 HA2 HNR2 HNO2 HNI2 HNE2 BW2
            obtain ⟨kk,g,gv,hkk,hg3,rfl,hgl3,HG,HO,HA,HNR,HNO,HNI,HNE,BW⟩:=hrel
            obtain ⟨A9,c9,rfl⟩:=Kd.S_slice HO.out
            by_cases hlt : kk < arr.length
            · have hx:=HAI.out arr[kk] (List.getElem_mem hlt)
              obtain ⟨ad,A',c',e,hx0,hlc,hC⟩:=at_L4 (Kd.S_reads' HA.out).2.2 (kk : Int) (by omega) (by rw [List.length_map];omega)
              cases e
              have hge : rd_L4 (arr.map (passB fs (pkL crcI l1 s.known m))) (kk : Int) = passB fs (pkL crcI l1 s.known m) arr[kk]:=by simp [rd_L4,List.getD_eq_getElem?_getD,hlt]
              rw [hge,Int.toNat_natCast] at hx0
              rw [hge] at hlc hC
              have HTS : Aside0 (takeL l1 s.known fs (arr.take (kk + 1)) s.got = if fs.getD arr[kk].toNat 0 = 4 then g else if (s.known + arr[kk].toNat) % 16 = g.length % 16 then g ++ [l1.getD (s.known + arr[kk].toNat) []] else g):=⟨by rw [List.take_succ_eq_append_getElem hlt,takeL_snoc,← HG.out]⟩
              have hub:=unp_bad HLL.out HBY.out fs s.known m arr[kk] hx.1 hx.2
              have huo:=unp_ok HLL.out HBY.out fs s.known m arr[kk] hx.1 hx.2
              have p1 : ((kk : Int) < (arr.length : Int)) = True:=eq_true (by omega)
              have p2 : (kk < arr.length) = True:=eq_true hlt
              have k0 : wr.cell? ⟨gr,0,none⟩ = some (.slice A9 g.length c9):=(blk_cell HNR.out 0).trans rfl
              clear hge
              generalize passB fs (pkL crcI l1 s.known m) arr[kk] = pk at hx0 hlc hC hub huo
              obtain ⟨x,hxx⟩ : ∃ x : Nat,x = arr[kk].toNat:=⟨_,rfl⟩
              rw [← hxx] at HTS hub huo
              clear hxx hx
              by_cases hf : fs.getD x 0 = 4
              · have HTG : Aside0 (g = takeL l1 s.known fs (arr.take (kk + 1)) s.got):=⟨by rw [HTS.out,if_pos hf]⟩
                have hun:=impl_UnpackLink.calls 1001 A' c' pk _ _ _ _ wr hC hlc (hub hf)
                clear hub huo hf HTS hlc hC
                go_wp2_with fail
                refine hun.mono ?_
                rintro e w2 ⟨v2,rfl,_,hb2⟩
                have HO2:=Aside0.mk (Kd.S_below HO.out hb2)
                have HA2:=Aside0.mk (Kd.S_below HA.out hb2)
                have HNR2:=Aside0.mk (blk_below HNR.out hb2)
                have HNO2:=Aside0.mk (blk_below HNO.out hb2)
                have HNI2:=Aside0.mk (blk_below HNI.out hb2)
                have HNE2:=Aside0.mk (blk_below HNE.out hb2)
                have BW2:=Aside0.mk (below_step BW.out hb2)
                clear hun hb2 k0 HO HA HNR HNO HNI HNE BW hx0
                go_wp2_with fail
                go_roundg (arr.length - (kk + 1))
                case measure => omega
                case rel => exact ⟨kk + 1,g,_,by omega,by omega,by go_num,by omega,HTG,HO2,HA2,HNR2,HNO2,HNI2,HNE2,BW2⟩
              · have hun:=impl_UnpackLink.calls 1001 A' c' pk _ _ _ _ wr hC hlc (huo hf)
                have e16 : (((s.known + x) % 16 : Nat) : Int) = ((s.known : Int) + (x : Int)) % 16:=by omega
                obtain ⟨q,hq⟩ : ∃ q : Int,q = (((s.known + x) % 16 : Nat) : Int):=⟨_,rfl⟩
                rw [← hq] at hun
                have HB16 : Aside0 (BytesL (l1.getD (s.known + x) [])):=⟨getD_bytes HBY.out _⟩
                clear hub huo hlc hC e16
                by_cases hs : (s.known + x) % 16 = g.length % 16
                · have HTG : Aside0 (g ++ [l1.getD (s.known + x) []] = takeL l1 s.known fs (arr.take (kk + 1)) s.got):=⟨by rw [HTS.out,if_neg hf,if_pos hs]⟩
                  have hqe : q = ((g.length : Int) % 16):=by omega
                  subst hqe
                  clear hq hs hf HTS
                  generalize l1.getD (s.known + x) [] = b at hun HTG HB16
                  have hg16 : g.length + 1 ≤ 7000:=by omega
                  go_wp2_with fail
                  refine hun.mono ?_
                  rintro e w2 ⟨v2,rfl,hr2,hb2⟩
                  obtain ⟨A5,c5,rfl⟩:=Kd.R_slice hr2
                  have HRB:=Aside0.mk (Kd.R_lower hr2 BW.out.size)
                  have HE:=Aside0.mk (Kd.S_mono (ok':=fun k => some k ≠ (Value.slice A5 b.length c5).ownBlock) (Kd.S_elder' HO.out (Kd.R_base hr2) hb2) (fun k hk => hk.2))
                  have HA2:=Aside0.mk (Kd.S_mono (ok':=fun k => True ∧ some k ≠ (Value.slice A9 g.length c9).ownBlock) (Kd.S_below HA.out hb2) (fun k hk => ⟨trivial,hk⟩))
                  have HNR2:=Aside0.mk (blk_below HNR.out hb2)
                  have HNO2:=Aside0.mk (blk_below HNO.out hb2)
                  have HNI2:=Aside0.mk (blk_below HNI.out hb2)
                  have HNE2:=Aside0.mk (blk_below HNE.out hb2)
                  have BW2:=Aside0.mk (below_step BW.out hb2)
                  clear hun hb2 hr2 k0 HO HA HNR HNO HNI HNE BW hx0
                  have k0 : w2.cell? ⟨gr,0,none⟩ = some (.slice A9 g.length c9):=(blk_cell HNR2.out 0).trans rfl
                  go_wp2_with ((with_reducible refine gate_builtin (b:=.append) (xs:=#[.tmp 114,.tmp 116]) rfl ?_);at_builtin;refine Kd.S_append (Kd.slice 5 (Kd.int .u8)) (w0:=w) w.heap.size rfl (.tmp 114) (.tmp 116) 23 22 (.slice none 0 0) 24 rfl Try.underlying23 (by kernel_rfl) rfl (by decide) (by omega) (.slice A9 g.length c9) g b [.slice A5 b.length c5] (fun _ => True) (fun k_ => some k_ = (Value.slice A5 b.length c5).ownBlock) rfl rfl ?aP ?aK ?aF ?aO ?aB ?aS ?aL ?_;(case aP => exact Kd.M_row (Kd.R_tight rfl HRB.out));(case aK => exact fun k hk => ⟨trivial,fun he => by have h1:=(Kd.R_apart' HRB.out (Kd.S_typed HE.out) (by decide)).1 k hk.symm;exact h1.2 he⟩);(case aF => exact (fun _ _ => trivial));(case aO => exact Kd.S_mono HE.out (fun k hk => ⟨trivial,fun e_ => hk e_⟩));(case aB => exact BW2.out);(case aS => exact BW2.out.size);(case aL => omega);intro v3 w3 ho3 hb3 hg3 hat3;obtain ⟨A6,c6,rfl⟩:=Kd.S_slice ho3;have HO3:=Aside0.mk ho3;have BW3:=Aside0.mk hb3;have HA3:=Aside0.mk (Kd.S_after HA2.out hg3 hat3);have HNR3:=Aside0.mk (blk_grown HNR2.out hg3 (ne_own HE.out HNR2.out (by decide)));have HNO3:=Aside0.mk (blk_grown HNO2.out hg3 (ne_own HE.out HNO2.out (by decide)));have HNI3:=Aside0.mk (blk_grown HNI2.out hg3 (ne_own HE.out HNI2.out (by decide)));have HNE3:=Aside0.mk (blk_grown HNE2.out hg3 (ne_own HE.out HNE2.out (by decide)));have k30 : w3.cell? ⟨gr,0,none⟩ = some (.slice A9 g.length c9):=(blk_cell HNR3.out 0).trans rfl;have f30:=blk_frozen HNR3.out 0;clear ho3 hb3 hg3 hat3)
                  have hl4 : (g ++ [b]).length = g.length + 1:=by simp
                  rw [hl4] at HO3 HA3
                  have HO4:=Aside0.mk (S_other HO3.out HNR3.out (by decide) 0 (.slice A6 (g.length + 1) c6))
                  have HA4:=Aside0.mk (S_other (Kd.S_mono (ok':=fun k => some k ≠ (Value.slice A6 (g.length + 1) c6).ownBlock) HA3.out (fun k hk => hk.2)) HNR3.out (by decide) 0 (.slice A6 (g.length + 1) c6))
                  have HNR4:=Aside0.mk (blk_setl HNR3.out 0 (.slice A6 (g.length + 1) c6))
                  have HNO4:=Aside0.mk (blk_seto HNO3.out (show gr + 1 ≠ gr by omega) 0 (.slice A6 (g.length + 1) c6))
                  have HNI4:=Aside0.mk (blk_seto HNI3.out (show gr + 1 + 1 ≠ gr by omega) 0 (.slice A6 (g.length + 1) c6))
                  have HNE4:=Aside0.mk (blk_seto HNE3.out (show w.heap.size ≠ gr by have:=HS1.out;omega) 0 (.slice A6 (g.length + 1) c6))
                  have BW4:=Aside0.mk (BW3.out.setCell (p:=⟨gr,0,none⟩) (by have:=HS1.out;show w.heap.size ≤ gr;omega) (.slice A6 (g.length + 1) c6))
                  go_roundg (arr.length - (kk + 1))
                  case measure => omega
                  case rel => exact ⟨kk + 1,g ++ [b],_,by omega,by omega,by go_num,by rw [hl4];omega,HTG,HO4,HA4,HNR4,HNO4,HNI4,HNE4,BW4⟩
                · have HTG : Aside0 (g = takeL l1 s.known fs (arr.take (kk + 1)) s.got):=⟨by rw [HTS.out,if_neg hf,if_neg hs]⟩
                  have hqe : (q == ((g.length : Int) % 16)) = false:=beq_eq_false_iff_ne.mpr (by omega)
                  clear hq hs hf HTS
                  go_wp2_with fail
                  refine hun.mono ?_
                  rintro e w2 ⟨v2,rfl,_,hb2⟩
                  have HO2:=Aside0.mk (Kd.S_below HO.out hb2)
                  have HA2:=Aside0.mk (Kd.S_below HA.out hb2)
                  have HNR2:=Aside0.mk (blk_below HNR.out hb2)
                  have HNO2:=Aside0.mk (blk_below HNO.out hb2)
                  have HNI2:=Aside0.mk (blk_below HNI.out hb2)
                  have HNE2:=Aside0.mk (blk_below HNE.out hb2)
                  have BW2:=Aside0.mk (below_step BW.out hb2)
                  clear hun hb2 k0 HO HA HNR HNO HNI HNE BW hx0
                  have k0 : w2.cell? ⟨gr,0,none⟩ = some (.slice A9 g.length c9):=(blk_cell HNR2.out 0).trans rfl
                  go_wp2_with fail
                  go_roundg (arr.length - (kk + 1))
                  case measure => omega
                  case rel => exact ⟨kk + 1,g,_,by omega,by omega,by go_num,by omega,HTG,HO2,HA2,HNR2,HNO2,HNI2,HNE2,BW2⟩
            · have e : kk = arr.length:=by omega
              subst e
              rw [List.take_length,← HGL.out] at HG
              clear hlt hg3 hkk HA HAI HGL
              have hsg : g.length ≤ 7000:=by omega
              have k0 : wr.cell? ⟨gr,0,none⟩ = some (.slice A9 g.length c9):=(blk_cell HNR.out 0).trans rfl
              have p3 : (arr.length < arr.length) = False:=eq_false (by omega)
              have hpb:=impl_PackLink.calls 1001 2 ((g.length : Int) % 16) none 0 [] _ true wr (Kd.C_nil _ _) (Nat.le_refl _) (packI 2 ((g.length : Int) % 16) [] (by omega) (by omega) (by omega) (by omega) (fun x hx => by simp at hx) (by simp) (fun _ => rfl) 1001 (by omega))
              have HPB:=Aside0.mk hpb
              clear hpb
              go_wp2_with fail
              refine HPB.out.mono ?_
              rintro e w2 ⟨v1,rfl,ho1,hb1⟩
              obtain ⟨A4,c4,rfl⟩:=Kd.R_slice ho1
              have hpbl : (pkt crcI 2 ((g.length : Int) % 16) []).length = 3:=pkt_len _ _ _ _
              have hC1:=C_one (Kd.R_reads' ho1).2.2 (Kd.R_reads' ho1).2.1
              have hba:=(below_alloc (Below.refl _ w2) (.cells #[.slice A4 (pkt crcI 2 ((g.length : Int) % 16) []).length c4] 22))
              have hb2:=below_step hb1 hba
              have HO2:=Aside0.mk (Kd.S_below HO.out hb2)
              have HNR2:=Aside0.mk (blk_below HNR.out hb2)
              have HNO2:=Aside0.mk (blk_below HNO.out hb2)
              have HNI2:=Aside0.mk (blk_below HNI.out hb2)
              have HNE2:=Aside0.mk (blk_below HNE.out hb2)
              have BW2:=Aside0.mk (below_step BW.out hb2)
              have hps:=x_pass (gr + 1 + 1) s.si A3 c3 l3 (some ⟨w2.heap.size,0,none⟩) 1 [pkt crcI 2 ((g.length : Int) % 16) []] _ (by simp) (by omega) HF3.out (fun b hb => by rw [List.mem_singleton.1 hb,hpbl];omega) (Kd.C_below HR3.out BW2.out) HC3.out hC1 HNI2.out
              rw [show passL (l3.drop s.si) [pkt crcI 2 ((g.length : Int) % 16) []] = (arrI (l3.drop s.si) 1).map (passB (l3.drop s.si) [pkt crcI 2 ((g.length : Int) % 16) []]) from rfl] at hps
              have HPS:=Aside0.mk hps
              have HKL : Aside0 (knownL win l1 l2 l3 s = hearL (decide ((l3.drop s.si).getD 0 0 = 4)) win (g.length % 16) (arrI (l3.drop s.si) 1).length s.known):=⟨by rw [HG.out];rfl⟩
              have HUB:=Aside0.mk (unp_back_bad (l3.drop s.si) ((g.length : Int) % 16) (by omega) (by omega))
              have HUO:=Aside0.mk (unp_back_ok (l3.drop s.si) ((g.length : Int) % 16) (by omega) (by omega))
              have HOG:=Aside0.mk (fun (kk : Nat) => one_get (l3.drop s.si) (pkt crcI 2 ((g.length : Int) % 16) []) kk)
              have hcn : (arrI (l3.drop s.si) 1).length ≤ 2:=arrI_len _ 1
              have HAL : Aside0 (((arrI (l3.drop s.si) 1).map (passB (l3.drop s.si) [pkt crcI 2 ((g.length : Int) % 16) []])).length = (arrI (l3.drop s.si) 1).length):=⟨List.length_map _⟩
              generalize pkt crcI 2 ((g.length : Int) % 16) [] = pb at hpbl hC1 hba hb2 HO2 HNR2 HNO2 HNI2 HNE2 BW2 HPS HUB HUO HOG HAL ho1 ⊢
              clear ho1 hb1 hC1 hba hb2 hps HPB k0 HO HNR HNO HNI HNE BW hpbl p3
              go_wp2_with fail
              refine HPS.out.mono ?_
              rintro e W4 ⟨av,w4,rfl,hW4,ha4,hb4⟩
              rw [show (([pb].length : Nat) : Int) = 1 from rfl] at hW4
              subst hW4
              obtain ⟨Ab,cb,rfl⟩:=Kd.S_slice ha4
              rw [HAL.out]
              rw [HAL.out] at ha4
              have HGLEN:=Aside0.mk HAL.out
              have HO5:=Aside0.mk (S_other (Kd.S_below HO2.out hb4) (blk_below HNI2.out hb4) (by decide) 1 (.int .i64 ((s.si : Int) + 1)))
              have HA5:=Aside0.mk (S_other ha4 (blk_below HNI2.out hb4) (by decide) 1 (.int .i64 ((s.si : Int) + 1)))
              have HNR5:=Aside0.mk (blk_seto (blk_below HNR2.out hb4) (show gr ≠ gr + 1 + 1 by omega) 1 (.int .i64 ((s.si : Int) + 1)))
              have HNO5:=Aside0.mk (blk_seto (blk_below HNO2.out hb4) (show gr + 1 ≠ gr + 1 + 1 by omega) 1 (.int .i64 ((s.si : Int) + 1)))
              have HNI5:=Aside0.mk (blk_setl (blk_below HNI2.out hb4) 1 (.int .i64 ((s.si : Int) + 1)))
              have HNE5:=Aside0.mk (blk_seto (blk_below HNE2.out hb4) (show w.heap.size ≠ gr + 1 + 1 by have:=HS1.out;omega) 1 (.int .i64 ((s.si : Int) + 1)))
              have BW5:=Aside0.mk ((below_step BW2.out hb4).setCell (p:=⟨gr + 1 + 1,1,none⟩) (by have:=HS1.out;show w.heap.size ≤ gr + 1 + 1;omega) (.int .i64 ((s.si : Int) + 1)))
              clear ha4 hb4 HPS HAL HO2 HNR2 HNO2 HNI2 HNE2 BW2
              generalize w4.setCell ⟨gr + 1 + 1,1,none⟩ (.int .i64 ((s.si : Int) + 1)) = W5 at HO5 HA5 HNR5 HNO5 HNI5 HNE5 BW5 ⊢
              generalize (w2.alloc (.cells #[.slice A4 pb.length c4] 22)).heap.size = b5 at HA5
              generalize l3.drop s.si = bs at HA5 HKL HUB HUO HOG HGLEN hcn ⊢
              generalize arrI bs 1 = ar at HA5 HKL HOG HGLEN hcn ⊢
              go_wp2_with fail
              obtain ⟨wo,HO9,HB9⟩ : ∃ wo : World,Aside0 (wo = W5) ∧ Aside0 (wo = W5):=⟨W5,⟨rfl⟩,⟨rfl⟩⟩
              clear HO9 HB9
              go_loopg [15,132] ar.length (fun gg s15 s132 wr => ∃ (kk kn : Nat),kk ≤ ar.length ∧ ar.length - kk ≤ gg ∧ s132 = .int .i64 (kk : Int) ∧ s15 = .int .i64 (kn : Int) ∧ kn ≤ s.known + kk * (win + 1) ∧ Aside0 (kn = hearL (decide (bs.getD 0 0 = 4)) win (g.length % 16) kk s.known) ∧ Aside0 (Below W5.heap.size W5 wr))
              case atStart => exact ⟨0,s.known,Nat.zero_le _,Nat.le_refl _,rfl,rfl,by omega,⟨rfl⟩,⟨Below.refl _ _⟩⟩
              case round =>
                obtain ⟨kk,kn,hkk,hg5,rfl,rfl,hkb,HH,BQ⟩:=hrel
                have hkn2 : kn ≤ 100:=by
                  have h1 : kk * (win + 1) ≤ 2 * (8 + 1):=Nat.mul_le_mul (by omega) (by omega)
                  omega
                by_cases hlt : kk < ar.length
                · obtain ⟨ad,A',c',e,hx0,hlc,hC⟩:=at_L4 (Kd.S_reads' (Kd.S_below HA5.out BQ.out)).2.2 (kk : Int) (by omega) (by rw [HGLEN.out];omega)
                  cases e
                  rw [HOG.out kk hlt,Int.toNat_natCast] at hx0
                  rw [HOG.out kk hlt] at hlc hC
                  have HHS : Aside0 (hearL (decide (bs.getD 0 0 = 4)) win (g.length % 16) (kk + 1) s.known = if decide (bs.getD 0 0 = 4) = true then kn else seekL kn win (g.length % 16)):=⟨by rw [hearL_snoc,← HH.out]⟩
                  have p1 : ((kk : Int) < (ar.length : Int)) = True:=eq_true (by omega)
                  have p2 : (kk < ar.length) = True:=eq_true hlt
                  have hub:=HUB.out
                  have huo:=HUO.out
                  generalize passB bs [pb] 0 = pk at hx0 hlc hC hub huo
                  by_cases hf : bs.getD 0 0 = 4
                  · have HTG : Aside0 (kn = hearL (decide (bs.getD 0 0 = 4)) win (g.length % 16) (kk + 1) s.known):=⟨by rw [HHS.out,if_pos (decide_eq_true hf)]⟩
                    have hun:=impl_UnpackLink.calls 1001 A' c' pk _ _ _ _ wr hC hlc (hub hf)
                    clear hub huo hf HHS hlc hC
                    go_wp2_with fail
                    refine hun.mono ?_
                    rintro e w6 ⟨v6,rfl,_,hb6⟩
                    have BQ6:=Aside0.mk (below_step BQ.out hb6)
                    clear hun hb6 hx0 BQ
                    go_wp2_with fail
                    go_roundg (ar.length - (kk + 1))
                    case measure => omega
                    case rel => exact ⟨kk + 1,kn,by omega,by omega,by go_num,rfl,by rw [Nat.succ_mul];omega,HTG,BQ6⟩
                  · have HTG : Aside0 (seekL kn win (g.length % 16) = hearL (decide (bs.getD 0 0 = 4)) win (g.length % 16) (kk + 1) s.known):=⟨by rw [HHS.out,if_neg (by rw [decide_eq_false hf];decide)]⟩
                    have hun:=impl_UnpackLink.calls 1001 A' c' pk _ _ _ _ wr hC hlc (huo hf)
                    have HKS:=Aside0.mk (seekL_le kn win (g.length % 16))
                    clear hub huo hf HHS hlc hC
                    go_wp2_with fail
                    refine hun.mono ?_
                    rintro e w6 ⟨v6,rfl,_,hb6⟩
                    have BQ6:=Aside0.mk (below_step BQ.out hb6)
                    clear hun hb6 hx0 BQ
                    go_wp2_with fail
                    obtain ⟨wo,HO9,HB9⟩ : ∃ wo : World,Aside0 (wo = w6) ∧ Aside0 (wo = w6):=⟨w6,⟨rfl⟩,⟨rfl⟩⟩
                    clear HO9 HB9
                    go_loopg [15,34] (win + 1) (fun gg s15 s34 wr => ∃ (k f : Nat),k + f = kn + win + 1 ∧ f ≤ gg ∧ s15 = .int .i64 (kn : Int) ∧ s34 = .int .i64 (k : Int) ∧ Aside0 (seekF (g.length % 16) f k kn = seekL kn win (g.length % 16)) ∧ Aside0 (wr = w6))
                    case atStart => exact ⟨kn,win + 1,by omega,Nat.le_refl _,rfl,rfl,⟨rfl⟩,⟨rfl⟩⟩
                    case round =>
                      obtain ⟨k,f,hkf,hfg,rfl,rfl,HSK,HW6⟩:=hrel
                      have BQ7 : Aside0 (Below W5.heap.size W5 wr):=⟨by rw [HW6.out];exact BQ6.out⟩
                      cases f with
                      | zero =>
                        have HTK : Aside0 (kn = hearL (decide (bs.getD 0 0 = 4)) win (g.length % 16) (kk + 1) s.known):=⟨by rw [← HTG.out,← HSK.out];rfl⟩
                        have q1 : ((k : Int) ≤ (kn : Int) + (win : Int)) = False:=eq_false (by omega)
                        clear HSK HTG HW6
                        go_wp2_with fail
                        go_roundg (ar.length - (kk + 1))
                        case measure => omega
                        case rel => exact ⟨kk + 1,kn,by omega,by omega,by go_num,rfl,by rw [Nat.succ_mul];omega,HTK,BQ7⟩
                      | succ f =>
                        have q1 : ((k : Int) ≤ (kn : Int) + (win : Int)) = True:=eq_true (by omega)
                        by_cases hq : k % 16 = g.length % 16
                        · have HTK : Aside0 (k = hearL (decide (bs.getD 0 0 = 4)) win (g.length % 16) (kk + 1) s.known):=⟨by rw [← HTG.out,← HSK.out,seekF,if_pos hq]⟩
                          have q2 : ((k : Int) % 16 == (g.length : Int) % 16) = true:=beq_iff_eq.mpr (by omega)
                          clear HSK HTG HW6 hq
                          go_wp2_with fail
                          go_roundg (ar.length - (kk + 1))
                          case measure => omega
                          case rel => exact ⟨kk + 1,k,by omega,by omega,by go_num,rfl,by rw [Nat.succ_mul];omega,HTK,BQ7⟩
                        · have HSK2 : Aside0 (seekF (g.length % 16) f (k + 1) kn = seekL kn win (g.length % 16)):=⟨by rw [← HSK.out,seekF,if_neg hq]⟩
                          have q2 : ((k : Int) % 16 == (g.length : Int) % 16) = false:=beq_eq_false_iff_ne.mpr (by omega)
                          clear HSK hq
                          go_wp2_with fail
                          go_roundg f
                          case measure => omega
                          case rel => exact ⟨k + 1,f,by omega,by omega,rfl,by go_num,HSK2,HW6⟩
                · have e : kk = ar.length:=by omega
                  subst e
                  have hro2 : s.rounds < rounds:=hr
                  have hkb2 : ar.length * (win + 1) ≤ 2 * (8 + 1):=Nat.mul_le_mul hcn (by omega)
                  have HSN : Aside0 (fin = runL win l1 l2 l3 (rounds - (s.rounds + 1)) (roundL win l1 l2 l3 s)):=⟨by
                    rw [HF.out]
                    obtain ⟨d,hd⟩ : ∃ d,rounds - s.rounds = d + 1:=⟨rounds - s.rounds - 1,by omega⟩
                    rw [hd,runL,if_pos hk,show rounds - (s.rounds + 1) = d from by omega]⟩
                  have HGT:=Aside0.mk HG.out
                  have HKN : Aside0 (kn = knownL win l1 l2 l3 s):=⟨by rw [HKL.out];exact HH.out⟩
                  have HO8:=Aside0.mk (Kd.S_below HO5.out BQ.out)
                  have HNR8:=Aside0.mk (blk_below HNR5.out BQ.out)
                  have HNO8:=Aside0.mk (blk_below HNO5.out BQ.out)
                  have HNI8:=Aside0.mk (blk_below HNI5.out BQ.out)
                  have HNE8:=Aside0.mk (blk_below HNE5.out BQ.out)
                  have BW8:=Aside0.mk (below_step BW5.out BQ.out)
                  have p3 : ((ar.length : Int) < (ar.length : Int)) = False:=eq_false (by omega)
                  clear HO5 HNR5 HNO5 HNI5 HNE5 BW5 BQ HA5 HUB HUO HOG HH HKL
                  go_wp2_with fail
                  go_roundg (rounds - (s.rounds + 1))
                  case measure => omega
                  case rel => exact ⟨roundL win l1 l2 l3 s,.slice A9 g.length c9,by show s.rounds + 1 ≤ rounds;omega,by show rounds - (s.rounds + 1) ≤ _;omega,by show _ = Value.int .i64 ((knownL win l1 l2 l3 s : Nat) : Int);rw [← HKN.out],by show knownL win l1 l2 l3 s ≤ 77;rw [← HKN.out];omega,by show s.so + manyL l1 win s.known ≤ 8 * (s.rounds + 1);rw [← HM.out];omega,⟨by show s.si + 1 = s.rounds + 1;rw [HSI.out]⟩,by show (gotL win l1 l2 s).length ≤ 16 * (s.rounds + 1);rw [← HGT.out];omega,HSN,⟨by show Kd.S _ _ _ _ _ _ (gotL win l1 l2 s);rw [← HGT.out];exact HO8.out⟩,HNR8,⟨by rw [HNO8.out,HM.out];rfl⟩,HNI8,HNE8,BW8⟩
    · have HE : Aside0 (fin = s) := ⟨by
        rw [HF.out]
        by_cases h : s.rounds < rounds
        · obtain ⟨d,hd⟩ : ∃ d,rounds - s.rounds = d + 1:=⟨rounds - s.rounds - 1,by omega⟩
          rw [hd,runL,if_neg (fun h2 => hgo ⟨h2,h⟩)]
        · rw [show rounds - s.rounds = 0 from by omega,runL]⟩
      have HE2 : Aside0 (fin.rounds = s.rounds ∧ fin.so = s.so ∧ fin.si = s.si ∧ fin.known = s.known ∧ fin.got = s.got):=⟨by rw [HE.out];exact ⟨rfl,rfl,rfl,rfl,rfl⟩⟩
      have k0 : wr.cell? ⟨gr,0,none⟩ = some gv:=(blk_cell HNR.out 0).trans rfl
      have k1 : wr.cell? ⟨gr,1,none⟩ = some (.int .i64 s.rounds):=(blk_cell HNR.out 1).trans rfl
      have k2 : wr.cell? ⟨gr,2,none⟩ = some (.int .i64 0):=(blk_cell HNR.out 2).trans rfl
      have k3 : wr.cell? ⟨gr,3,none⟩ = some (.bool false):=(blk_cell HNR.out 3).trans rfl
      have f2:=blk_frozen HNR.out 2
      have f3:=blk_frozen HNR.out 3
      have ko : wr.cell? ⟨gr + 1,1,none⟩ = some (.int .i64 s.so):=(blk_cell HNO.out 1).trans rfl
      have ki : wr.cell? ⟨gr + 1 + 1,1,none⟩ = some (.int .i64 s.si):=(blk_cell HNI.out 1).trans rfl
      obtain ⟨A9,c9,rfl⟩:=Kd.S_slice HO.out
      by_cases hk : s.known < l1.length
      · have p1 : ((s.known : Int) < (l1.length : Int)) = True:=eq_true (by omega)
        have p2 : ((s.rounds : Int) < (rounds : Int)) = False:=eq_false (fun h => hgo ⟨hk,by omega⟩)
        have p3 : ((l1.length : Int) ≤ (s.known : Int)) = False:=eq_false (by omega)
        have HP : Aside0 (decide (l1.length ≤ s.known) = false):=⟨decide_eq_false (by omega)⟩
        clear hgo hk HF
        go_upto_region 35 with (fail)
        have HX1:=blk_setl (blk_setl HNR.out 2 (.int .i64 ((s.so : Int) + (s.si : Int)))) 3 (.bool false)
        have hne1 : w.heap.size ≠ gr:=by have:=HS1.out;omega
        have HX2:=blk_seto (blk_seto HNE.out hne1 2 (.int .i64 ((s.so : Int) + (s.si : Int)))) hne1 3 (.bool false)
        have HOX:=Aside0.mk (S_other (S_other HO.out HNR.out (by decide) 2 (.int .i64 ((s.so : Int) + (s.si : Int)))) (blk_setl HNR.out 2 _) (by decide) 3 (.bool false))
        have BWX:=Aside0.mk ((BW.out.setCell (p:=⟨gr,2,none⟩) (by have:=HS1.out;show w.heap.size ≤ gr;omega) (.int .i64 ((s.so : Int) + (s.si : Int)))).setCell (p:=⟨gr,3,none⟩) (by have:=HS1.out;show w.heap.size ≤ gr;omega) (.bool false))
        clear k0 k1 k2 k3 f2 f3 ko ki p1 HO BW HNR HNE HNO HNI
        generalize (wr.setCell ⟨gr,2,none⟩ (.int .i64 ((s.so : Int) + (s.si : Int)))).setCell ⟨gr,3,none⟩ (.bool false) = W9 at HX1 HX2 HOX BWX ⊢
        have k0 : W9.cell? ⟨gr,0,none⟩ = some (.slice A9 s.got.length c9):=(blk_cell HX1 0).trans rfl
        have k1 : W9.cell? ⟨gr,1,none⟩ = some (.int .i64 s.rounds):=(blk_cell HX1 1).trans rfl
        have k2 : W9.cell? ⟨gr,2,none⟩ = some (.int .i64 ((s.so : Int) + (s.si : Int))):=(blk_cell HX1 2).trans rfl
        have k3 : W9.cell? ⟨gr,3,none⟩ = some (.bool false):=(blk_cell HX1 3).trans rfl
        have e0 : W9.cell? ⟨w.heap.size,0,none⟩ = some (.slice none 0 0):=(blk_cell HX2 0).trans rfl
        have e1 : W9.cell? ⟨w.heap.size,1,none⟩ = some (.int .i64 0):=(blk_cell HX2 1).trans rfl
        have e2 : W9.cell? ⟨w.heap.size,2,none⟩ = some (.int .i64 0):=(blk_cell HX2 2).trans rfl
        have e3 : W9.cell? ⟨w.heap.size,3,none⟩ = some (.bool false):=(blk_cell HX2 3).trans rfl
        have g0:=blk_frozen HX2 0
        have g1:=blk_frozen HX2 1
        have g2:=blk_frozen HX2 2
        have g3:=blk_frozen HX2 3
        have HX:=Aside0.mk HX2
        clear HX1 HX2 hne1
        go_wp2_with fail
        have HY:=blk_setl (blk_setl (blk_setl (blk_setl HX.out 0 (.slice A9 s.got.length c9)) 1 (.int .i64 s.rounds)) 2 (.int .i64 ((s.so : Int) + (s.si : Int)))) 3 (.bool false)
        have HOY:=Aside0.mk (S_other (S_other (S_other (S_other HOX.out HX.out (by decide) 0 (.slice A9 s.got.length c9)) (blk_setl HX.out 0 _) (by decide) 1 (.int .i64 s.rounds)) (blk_setl (blk_setl HX.out 0 _) 1 _) (by decide) 2 (.int .i64 ((s.so : Int) + (s.si : Int)))) (blk_setl (blk_setl (blk_setl HX.out 0 _) 1 _) 2 _) (by decide) 3 (.bool false))
        have BWY:=Aside0.mk ((((BWX.out.setCell (p:=⟨w.heap.size,0,none⟩) (Nat.le_refl w.heap.size) (.slice A9 s.got.length c9)).setCell (p:=⟨w.heap.size,1,none⟩) (Nat.le_refl w.heap.size) (.int .i64 s.rounds)).setCell (p:=⟨w.heap.size,2,none⟩) (Nat.le_refl w.heap.size) (.int .i64 ((s.so : Int) + (s.si : Int)))).setCell (p:=⟨w.heap.size,3,none⟩) (Nat.le_refl w.heap.size) (.bool false))
        clear HOX BWX HX k0 k1 k2 k3 e0 e1 e2 e3 g0 g1 g2 g3
        generalize (((W9.setCell ⟨w.heap.size,0,none⟩ (.slice A9 s.got.length c9)).setCell ⟨w.heap.size,1,none⟩ (.int .i64 s.rounds)).setCell ⟨w.heap.size,2,none⟩ (.int .i64 ((s.so : Int) + (s.si : Int)))).setCell ⟨w.heap.size,3,none⟩ (.bool false) = W10 at HY HOY BWY ⊢
        refine bodyPost_ret (results_ct rfl _ _ w.heap.size 28 #[.slice A9 s.got.length c9,.int .i64 s.rounds,.int .i64 ((s.so : Int) + (s.si : Int)),.bool false] (0,0) _ rfl HY hu rfl (by kernel_rfl)) rfl ?_
        obtain ⟨q1,q2,q3,q4,q5⟩:=HE2.out
        refine ⟨.slice A9 s.got.length c9,?_,?_,?_⟩
        · rw [q1,q2,q3,q4,HP.out]
          rfl
        · rw [q5];exact HOY.out
        · exact BWY.out
      · have p1 : ((s.known : Int) < (l1.length : Int)) = False:=eq_false (by omega)
        have p3 : ((l1.length : Int) ≤ (s.known : Int)) = True:=eq_true (by omega)
        have HP : Aside0 (decide (l1.length ≤ s.known) = true):=⟨decide_eq_true (by omega)⟩
        clear hgo hk HF
        go_upto_region 35 with (fail)
        have HX1:=blk_setl (blk_setl HNR.out 2 (.int .i64 ((s.so : Int) + (s.si : Int)))) 3 (.bool true)
        have hne1 : w.heap.size ≠ gr:=by have:=HS1.out;omega
        have HX2:=blk_seto (blk_seto HNE.out hne1 2 (.int .i64 ((s.so : Int) + (s.si : Int)))) hne1 3 (.bool true)
        have HOX:=Aside0.mk (S_other (S_other HO.out HNR.out (by decide) 2 (.int .i64 ((s.so : Int) + (s.si : Int)))) (blk_setl HNR.out 2 _) (by decide) 3 (.bool true))
        have BWX:=Aside0.mk ((BW.out.setCell (p:=⟨gr,2,none⟩) (by have:=HS1.out;show w.heap.size ≤ gr;omega) (.int .i64 ((s.so : Int) + (s.si : Int)))).setCell (p:=⟨gr,3,none⟩) (by have:=HS1.out;show w.heap.size ≤ gr;omega) (.bool true))
        clear k0 k1 k2 k3 f2 f3 ko ki p1 HO BW HNR HNE HNO HNI
        generalize (wr.setCell ⟨gr,2,none⟩ (.int .i64 ((s.so : Int) + (s.si : Int)))).setCell ⟨gr,3,none⟩ (.bool true) = W9 at HX1 HX2 HOX BWX ⊢
        have k0 : W9.cell? ⟨gr,0,none⟩ = some (.slice A9 s.got.length c9):=(blk_cell HX1 0).trans rfl
        have k1 : W9.cell? ⟨gr,1,none⟩ = some (.int .i64 s.rounds):=(blk_cell HX1 1).trans rfl
        have k2 : W9.cell? ⟨gr,2,none⟩ = some (.int .i64 ((s.so : Int) + (s.si : Int))):=(blk_cell HX1 2).trans rfl
        have k3 : W9.cell? ⟨gr,3,none⟩ = some (.bool true):=(blk_cell HX1 3).trans rfl
        have e0 : W9.cell? ⟨w.heap.size,0,none⟩ = some (.slice none 0 0):=(blk_cell HX2 0).trans rfl
        have e1 : W9.cell? ⟨w.heap.size,1,none⟩ = some (.int .i64 0):=(blk_cell HX2 1).trans rfl
        have e2 : W9.cell? ⟨w.heap.size,2,none⟩ = some (.int .i64 0):=(blk_cell HX2 2).trans rfl
        have e3 : W9.cell? ⟨w.heap.size,3,none⟩ = some (.bool false):=(blk_cell HX2 3).trans rfl
        have g0:=blk_frozen HX2 0
        have g1:=blk_frozen HX2 1
        have g2:=blk_frozen HX2 2
        have g3:=blk_frozen HX2 3
        have HX:=Aside0.mk HX2
        clear HX1 HX2 hne1
        go_wp2_with fail
        have HY:=blk_setl (blk_setl (blk_setl (blk_setl HX.out 0 (.slice A9 s.got.length c9)) 1 (.int .i64 s.rounds)) 2 (.int .i64 ((s.so : Int) + (s.si : Int)))) 3 (.bool true)
        have HOY:=Aside0.mk (S_other (S_other (S_other (S_other HOX.out HX.out (by decide) 0 (.slice A9 s.got.length c9)) (blk_setl HX.out 0 _) (by decide) 1 (.int .i64 s.rounds)) (blk_setl (blk_setl HX.out 0 _) 1 _) (by decide) 2 (.int .i64 ((s.so : Int) + (s.si : Int)))) (blk_setl (blk_setl (blk_setl HX.out 0 _) 1 _) 2 _) (by decide) 3 (.bool true))
        have BWY:=Aside0.mk ((((BWX.out.setCell (p:=⟨w.heap.size,0,none⟩) (Nat.le_refl w.heap.size) (.slice A9 s.got.length c9)).setCell (p:=⟨w.heap.size,1,none⟩) (Nat.le_refl w.heap.size) (.int .i64 s.rounds)).setCell (p:=⟨w.heap.size,2,none⟩) (Nat.le_refl w.heap.size) (.int .i64 ((s.so : Int) + (s.si : Int)))).setCell (p:=⟨w.heap.size,3,none⟩) (Nat.le_refl w.heap.size) (.bool true))
        clear HOX BWX HX k0 k1 k2 k3 e0 e1 e2 e3 g0 g1 g2 g3
        generalize (((W9.setCell ⟨w.heap.size,0,none⟩ (.slice A9 s.got.length c9)).setCell ⟨w.heap.size,1,none⟩ (.int .i64 s.rounds)).setCell ⟨w.heap.size,2,none⟩ (.int .i64 ((s.so : Int) + (s.si : Int)))).setCell ⟨w.heap.size,3,none⟩ (.bool true) = W10 at HY HOY BWY ⊢
        refine bodyPost_ret (results_ct rfl _ _ w.heap.size 28 #[.slice A9 s.got.length c9,.int .i64 s.rounds,.int .i64 ((s.so : Int) + (s.si : Int)),.bool true] (0,0) _ rfl HY hu rfl (by kernel_rfl)) rfl ?_
        obtain ⟨q1,q2,q3,q4,q5⟩:=HE2.out
        refine ⟨.slice A9 s.got.length c9,?_,?_,?_⟩
        · rw [q1,q2,q3,q4,HP.out]
          rfl
        · rw [q5];exact HOY.out
        · exact BWY.out
set_option maxHeartbeats 8000000 in
set_option maxRecDepth 1000000 in
theorem x_RunLink_no (a0 a4 : Int) (A1 : Option Addr) (c1 : Nat) (l1 : List (List Int)) (A2 : Option Addr) (c2 : Nat) (l2 : List Int) (A3 : Option Addr) (c3 : Nat) (l3 : List Int) (w : World) (hok : linkB a0 l1 l2 l3 a4 = false)
    (hr1 : Kd.C (Kd.slice 5 (Kd.int .u8)) w A1 l1.length l1) (hc1 : l1.length ≤ c1) (hr2 : Kd.C (Kd.int .i64) w A2 l2.length l2) (hc2 : l2.length ≤ c2) (hr3 : Kd.C (Kd.int .i64) w A3 l3.length l3) (hc3 : l3.length ≤ c3) :
    Calls Try.prog 10 #[.int .i64 a0,.slice A1 l1.length c1,.slice A2 l2.length c2,.slice A3 l3.length c3,.int .i64 a4] w fun e w' =>
      e = .returned (.tuple #[.agg #[.slice none 0 0,.int .i64 0,.int .i64 0,.bool false],.bool false]) ∧ Below w.heap.size w w':=by
  have hu:=Try.underlying28
  have hb0 : Below w.heap.size w (w.alloc (.cells #[.slice none 0 0,.int .i64 0,.int .i64 0,.bool false] 28)):=below_alloc (Below.refl _ w) _
  have hn0:=blk_new w (.cells #[.slice none 0 0,.int .i64 0,.int .i64 0,.bool false] 28)
  have hlk:=fun W (hW : Below w.heap.size w W) => impl_linkOk.calls a0 A1 c1 l1 A2 c2 l2 A3 c3 l3 a4 false W (Kd.C_below hr1 hW) hc1 (Kd.C_below hr2 hW) hc2 (Kd.C_below hr3 hW) hc3 (by show some _ = some _;rw [hok])
  have HB0:=Aside0.mk hb0
  have HN0:=Aside0.mk hn0
  have HLK:=Aside0.mk hlk
  clear hr1 hr2 hr3 hc1 hc2 hc3 hb0 hn0 hlk hok
  go_enter Try.func10,Try.ntmps10
  go_wp2_with fail
  refine (HLK.out _ HB0.out).mono ?_
  rintro e w1 ⟨rfl,hb1⟩
  have HB1:=Aside0.mk (below_step HB0.out hb1)
  have HX:=blk_below HN0.out hb1
  have e0 : w1.cell? ⟨w.heap.size,0,none⟩ = some (.slice none 0 0):=(blk_cell HX 0).trans rfl
  have e1 : w1.cell? ⟨w.heap.size,1,none⟩ = some (.int .i64 0):=(blk_cell HX 1).trans rfl
  have e2 : w1.cell? ⟨w.heap.size,2,none⟩ = some (.int .i64 0):=(blk_cell HX 2).trans rfl
  have e3 : w1.cell? ⟨w.heap.size,3,none⟩ = some (.bool false):=(blk_cell HX 3).trans rfl
  have g0:=blk_frozen HX 0
  have g1:=blk_frozen HX 1
  have g2:=blk_frozen HX 2
  have g3:=blk_frozen HX 3
  have HX1:=Aside0.mk HX
  clear hb1 HB0 HN0 HLK HX
  go_wp2_with fail
  have HY:=blk_setl (blk_setl (blk_setl (blk_setl HX1.out 0 (.slice none 0 0)) 1 (.int .i64 0)) 2 (.int .i64 0)) 3 (.bool false)
  have BWY:=Aside0.mk ((((HB1.out.setCell (p:=⟨w.heap.size,0,none⟩) (Nat.le_refl _) (.slice none 0 0)).setCell (p:=⟨w.heap.size,1,none⟩) (Nat.le_refl _) (.int .i64 0)).setCell (p:=⟨w.heap.size,2,none⟩) (Nat.le_refl _) (.int .i64 0)).setCell (p:=⟨w.heap.size,3,none⟩) (Nat.le_refl _) (.bool false))
  clear e0 e1 e2 e3 g0 g1 g2 g3 HX1 HB1
  generalize (((w1.setCell ⟨w.heap.size,0,none⟩ (.slice none 0 0)).setCell ⟨w.heap.size,1,none⟩ (.int .i64 0)).setCell ⟨w.heap.size,2,none⟩ (.int .i64 0)).setCell ⟨w.heap.size,3,none⟩ (.bool false) = W10 at HY BWY ⊢
  refine bodyPost_ret (results_ct rfl _ _ w.heap.size 28 #[.slice none 0 0,.int .i64 0,.int .i64 0,.bool false] (0,0) _ rfl HY hu rfl (by kernel_rfl)) rfl ?_
  exact ⟨rfl,BWY.out⟩

/-! ### impl_RunLink: function 10 (by hand) -/
def impl_RunLink.f (a0 : Int) (l1 : List (List Int)) (l2 : List Int) (l3 : List Int) (a4 : Int) : Option ((List (List Int)) × Int × Int × Bool × Bool) :=
 if linkB a0 l1 l2 l3 a4 = true then (if bytesB l1 = true then some ((runL a0.toNat l1 l2 l3 a4.toNat startL).got,((runL a0.toNat l1 l2 l3 a4.toNat startL).rounds : Int),((runL a0.toNat l1 l2 l3 a4.toNat startL).so : Int) + ((runL a0.toNat l1 l2 l3 a4.toNat startL).si : Int),decide (l1.length ≤ (runL a0.toNat l1 l2 l3 a4.toNat startL).known),true) else none) else some ([],0,0,false,false)
set_option maxHeartbeats 4000000 in
set_option maxRecDepth 100000 in
theorem impl_RunLink.calls (a0 : Int) (A1 : Option Addr) (c1 : Nat) (l1 : List (List Int)) (A2 : Option Addr) (c2 : Nat) (l2 : List Int) (A3 : Option Addr) (c3 : Nat) (l3 : List Int) (a4 : Int) (r1 : List (List Int)) (r2 : Int) (r3 : Int) (r4 : Bool) (r5 : Bool) (w : World) (hr1 : Kd.C (Kd.slice 5 (Kd.int .u8)) w A1 l1.length l1) (hc1 : l1.length ≤ c1) (hr2 : Kd.C (Kd.int .i64) w A2 l2.length l2) (hc2 : l2.length ≤ c2) (hr3 : Kd.C (Kd.int .i64) w A3 l3.length l3) (hc3 : l3.length ≤ c3) (h : impl_RunLink.f a0 l1 l2 l3 a4 = some (r1,r2,r3,r4,r5)) :
  Calls Try.prog 10 #[.int .i64 a0,.slice A1 l1.length c1,.slice A2 l2.length c2,.slice A3 l3.length c3,.int .i64 a4] w fun e w' => ∃ v0_ : Value,e = .returned (.tuple #[.agg #[v0_,.int .i64 r2,.int .i64 r3,.bool r4],.bool r5]) ∧ Kd.S (Kd.slice 5 (Kd.int .u8)) 22 w' w.heap.size (fun _ => True) v0_ r1 ∧ Below w.heap.size w w':=by
 unfold impl_RunLink.f at h
 by_cases hl : linkB a0 l1 l2 l3 a4 = true
 ·rw [if_pos hl] at h
  by_cases hb : bytesB l1 = true
  ·rw [if_pos hb] at h
   injection h with h
   injection h with h1 h
   injection h with h2 h
   injection h with h3 h
   injection h with h4 h5
   subst h1
   subst h2
   subst h3
   subst h4
   subst h5
   have hl2:=hl
   unfold linkB at hl2
   simp only [Bool.and_eq_true,decide_eq_true_eq] at hl2
   obtain ⟨n,rfl⟩ : ∃ n : Nat,a0 = (n : Int):=⟨a0.toNat,by omega⟩
   obtain ⟨k,rfl⟩ : ∃ n : Nat,a4 = (n : Int):=⟨a4.toNat,by omega⟩
   rw [Int.toNat_natCast,Int.toNat_natCast]
   exact x_RunLink n k A1 c1 l1 A2 c2 l2 A3 c3 l3 w hl (bytesB_iff.1 hb) hr1 hc1 hr2 hc2 hr3 hc3
  ·rw [if_neg hb] at h
   cases h
 ·rw [if_neg hl] at h
  injection h with h
  injection h with h1 h
  injection h with h2 h
  injection h with h3 h
  injection h with h4 h5
  subst h1
  subst h2
  subst h3
  subst h4
  subst h5
  refine (x_RunLink_no a0 a4 A1 c1 l1 A2 c2 l2 A3 c3 l3 w (by cases hq : linkB a0 l1 l2 l3 a4 <;> simp_all) hr1 hc1 hr2 hc2 hr3 hc3).mono ?_
  rintro e w' ⟨rfl,hb⟩
  exact ⟨_,rfl,Kd.S_nil _ _ _ _ _,hb⟩

/-! ### spec_l1In: function 36 -/
def spec_l1In.f (a0 : Int) (a1 : Int) (a2 : Int) : Option (Bool):=if a0 ≥ a1 then (some (decide (a0 ≤ a2))) else (some false)
set_option maxHeartbeats 8000000 in
set_option maxRecDepth 100000 in
theorem spec_l1In.calls (a0 : Int) (a1 : Int) (a2 : Int) (r : Bool) (w : World) (h : spec_l1In.f a0 a1 a2 = some r) :
  Calls Try.prog 36 #[.int .i64 a0,.int .i64 a1,.int .i64 a2] w fun e w' => e = .returned (.bool r) ∧ Drawn0 w w':=by
 have H : (if a0 ≥ a1 then (some (decide (a0 ≤ a2))) else (some false)) = some r:=h
 clear h
 by_cases c4 : a0 ≥ a1
 ·rw [if_pos c4] at H
  have c4b0 : decide (a1 ≤ a0) = true:=decide_eq_true c4
  clear c4
  obtain rfl:=Option.some.inj H
  go_enter Try.func36,Try.ntmps36
  go_wp2
  go_ret
  exact ⟨by first|rfl|(simp;done)|(simp [*];done),by repeat (first|exact Drawn0.refl _|apply Drawn0.step)⟩
 ·rw [if_neg c4] at H
  have c4b0 : decide (a1 ≤ a0) = false:=decide_eq_false c4
  clear c4
  obtain rfl:=Option.some.inj H
  go_enter Try.func36,Try.ntmps36
  go_wp2
  go_ret
  exact ⟨by first|rfl|(simp;done)|(simp [*];done),by repeat (first|exact Drawn0.refl _|apply Drawn0.step)⟩

/-! ### spec_FatesValid: function 44 -/
def spec_FatesValid.l0 : Nat → List Int → Int → Option (Bool)
 | 0,_,_ => none
 | k + 1,x0,x3 => if x3 < (x0.length : Int) then (if 0 ≤ x3 then ((spec_l1In.f (rd x0 x3) 0 4).bind fun t188 => (if t188 = true then (spec_FatesValid.l0 k x0 (wrap64 (x3 + 1))) else (some false))) else (none)) else (some (decide ((x0.length : Int) ≤ 200)))
def spec_FatesValid.f (k : Nat) (l0 : List Int) : Option (Bool):=spec_FatesValid.l0 k l0 0
theorem spec_FatesValid.mono_l : ∀ k,(∀ y0 y1,LeO (spec_FatesValid.l0 k y0 y1) (spec_FatesValid.l0 (k + 1) y0 y1))
 | 0 => fun _ _ r h => by simp [spec_FatesValid.l0] at h
 | k + 1 => by
  have ih0:=spec_FatesValid.mono_l k
  ·intro y0 y1
   unfold spec_FatesValid.l0
   repeat' first
   | (with_reducible exact ih0 _ _)
   | (with_reducible exact LeO.refl _)
   | (with_reducible exact LeO.none _)
   | (with_reducible refine LeO.ite ?_ ?_)
   | (with_reducible refine LeO.bind ?_ (fun _ => ?_))
   | exact ih0 _ _
   | exact LeO.none _
   | refine LeO.ite ?_ ?_
   | refine LeO.bind ?_ (fun _ => ?_)
theorem spec_FatesValid.mono : ∀ a0 k,LeO (spec_FatesValid.f k a0) (spec_FatesValid.f (k + 1) a0):=by
 intro a0 k
 have ih0:=spec_FatesValid.mono_l k
 unfold spec_FatesValid.f
 repeat' first
   | (with_reducible exact ih0 _ _)
   | (with_reducible exact LeO.refl _)
   | (with_reducible exact LeO.none _)
   | (with_reducible refine LeO.ite ?_ ?_)
   | (with_reducible refine LeO.bind ?_ (fun _ => ?_))
   | exact ih0 _ _
   | exact LeO.none _
   | refine LeO.ite ?_ ?_
   | refine LeO.bind ?_ (fun _ => ?_)
set_option maxHeartbeats 8000000 in
set_option maxRecDepth 100000 in
theorem spec_FatesValid.calls (k : Nat) (A0 : Option Addr) (c0 : Nat) (l0 : List Int) (r : Bool) (w : World) (hr0 : Kd.C (Kd.int .i64) w A0 l0.length l0) (hc0 : l0.length ≤ c0) (h : spec_FatesValid.f k l0 = some r) :
  Calls Try.prog 44 #[.slice A0 l0.length c0] w fun e w' => e = .returned (.bool r) ∧ Drawn0 w w':=by
 have HR0:=mk_ hr0
 have HC0:=mk_ hc0
 clear hr0 hc0
 have H : (spec_FatesValid.l0 k l0 0) = some r:=h
 clear h
 have H':=mk_ H
 clear H
 go_enter Try.func44,Try.ntmps44
 go_wp2
 go_loopg [3] k (fun kq v3 w' => ∃ (x3_1 : Int),v3 = .int .i64 x3_1 ∧ Aside0 (spec_FatesValid.l0 kq l0 x3_1 = some r) ∧ Aside0 (kq ≤ k) ∧ Drawn0 w w')
 case atStart => exact ⟨(0),qf_,H',⟨Nat.le_refl _⟩,by repeat (first|exact Drawn0.refl _|apply Drawn0.step)⟩
 case round =>
  clear H'
  obtain ⟨x3_1,rfl,HA,HK1,⟨m1,rfl⟩⟩:=hrel
  cases gk with
  | zero => exact absurd HA.out (by simp [spec_FatesValid.l0])
  | succ k1 =>
   have H:=HA.out
   clear HA
   simp only [spec_FatesValid.l0] at H
   by_cases c2 : x3_1 < (l0.length : Int)
   ·rw [if_pos c2] at H
    have c2b0 : decide (x3_1 < (l0.length : Int)) = true:=decide_eq_true c2
    clear c2
    by_cases c3 : 0 ≤ x3_1
    ·rw [if_pos c3] at H
     have c3b0 : decide (0 ≤ x3_1) = true:=decide_eq_true c3
     clear c3
     replace H:=Option.bind_eq_some_iff.mp H
     obtain ⟨t188,A40,H⟩:=H
     replace H : (if t188 = true then (spec_FatesValid.l0 k1 l0 (wrap64 (x3_1 + 1))) else (some false)) = some r:=H
     have A4:=mk_ A40
     clear A40
     by_cases c5 : t188 = true
     ·subst c5
      have H1 : (spec_FatesValid.l0 k1 l0 (wrap64 (x3_1 + 1))) = some r:=by rw [if_pos rfl] at H;exact H
      clear H
      have H:=H1
      clear H1
      have H':=mk_ H
      clear H
      have p187 : 0 ≤ (x3_1 : Int):=od_ qa_
      have q187 : x3_1 < (l0.length : Int):=od_ qa_
      obtain ⟨ad187,e187,hx187_0⟩:=Kd.at_int HR0.out x3_1 p187 q187
      cases e187
      replace p187:=eq_true p187
      replace q187:=eq_true q187
      go_wp2_with (first|((with_reducible refine gate_callee (f:=36) rfl ?_);refine goesL_ (some 14) rfl rfl Try.func36 (by kernel_rfl) rfl #[.int .i64 (rd l0 x3_1),.int .i64 0,.int .i64 4] rfl qm_ ?_;(with_reducible refine (spec_l1In.calls (rd l0 x3_1) 0 4 true _ A4.out).mono ?_);rintro e w' ⟨rfl,⟨nd,rfl⟩⟩;refine ⟨_,rfl,?_⟩))
      go_roundg k1
      case measure => have:=HK1.out;omega
      case rel => exact ⟨(wrap64 (x3_1 + 1)),qf_,H',⟨by have:=HK1.out;omega⟩,by repeat (first|exact Drawn0.refl _|apply Drawn0.step)⟩
     ·replace c5:=Bool.eq_false_iff.mpr c5
      subst c5
      have H1 : (some false) = some r:=by rw [if_neg (show ¬ (false = true) by decide)] at H;exact H
      clear H
      have H:=H1
      clear H1
      obtain rfl:=Option.some.inj H
      have p187 : 0 ≤ (x3_1 : Int):=od_ qa_
      have q187 : x3_1 < (l0.length : Int):=od_ qa_
      obtain ⟨ad187,e187,hx187_0⟩:=Kd.at_int HR0.out x3_1 p187 q187
      cases e187
      replace p187:=eq_true p187
      replace q187:=eq_true q187
      go_wp2_with (first|((with_reducible refine gate_callee (f:=36) rfl ?_);refine goesL_ (some 14) rfl rfl Try.func36 (by kernel_rfl) rfl #[.int .i64 (rd l0 x3_1),.int .i64 0,.int .i64 4] rfl qm_ ?_;(with_reducible refine (spec_l1In.calls (rd l0 x3_1) 0 4 false _ A4.out).mono ?_);rintro e w' ⟨rfl,⟨nd,rfl⟩⟩;refine ⟨_,rfl,?_⟩))
      go_ret
      exact ⟨by first|rfl|(simp;done)|(simp [*];done),by repeat (first|exact Drawn0.refl _|apply Drawn0.step)⟩
    ·rw [if_neg c3] at H
     exact absurd H (by simp)
   ·rw [if_neg c2] at H
    have c2b0 : decide (x3_1 < (l0.length : Int)) = false:=decide_eq_false c2
    clear c2
    obtain rfl:=Option.some.inj H
    go_wp2
    go_ret
    exact ⟨by first|rfl|(simp;done)|(simp [*];done),by repeat (first|exact Drawn0.refl _|apply Drawn0.step)⟩

/-! ### spec_l5Link: function 35 -/
def spec_l5Link.l0 : Nat → Int → List (List Int) → List Int → List Int → Int → Option (Bool)
 | 0,_,_,_,_,_ => none
 | k + 1,x0,x1,x2,x3,x9 => if x9 < (x1.length : Int) then (if 0 ≤ x9 then (if ((rd_L4 x1 x9).length : Int) > 597 then (some false) else (spec_l5Link.l0 k x0 x1 x2 x3 (wrap64 (x9 + 1)))) else (none)) else ((spec_l1In.f x0 1 8).bind fun t190 => (if t190 = true then (if (x1.length : Int) ≤ 60 then ((spec_FatesValid.f k x2).bind fun t191 => (if t191 = true then ((spec_FatesValid.f k x3).bind fun t192 => (some t192)) else (some false))) else (some false)) else (some false)))
def spec_l5Link.f (k : Nat) (a0 : Int) (l1 : List (List Int)) (l2 : List Int) (l3 : List Int) : Option (Bool):=spec_l5Link.l0 k a0 l1 l2 l3 0
theorem spec_l5Link.mono_l : ∀ k,(∀ y0 y1 y2 y3 y4,LeO (spec_l5Link.l0 k y0 y1 y2 y3 y4) (spec_l5Link.l0 (k + 1) y0 y1 y2 y3 y4))
 | 0 => fun _ _ _ _ _ r h => by simp [spec_l5Link.l0] at h
 | k + 1 => by
  have ih0:=spec_l5Link.mono_l k
  ·intro y0 y1 y2 y3 y4
   unfold spec_l5Link.l0
   repeat' first
   | (with_reducible exact ih0 _ _ _ _ _)
   | (with_reducible exact spec_FatesValid.mono _ _)
   | (with_reducible exact LeO.refl _)
   | (with_reducible exact LeO.none _)
   | (with_reducible refine LeO.ite ?_ ?_)
   | (with_reducible refine LeO.bind ?_ (fun _ => ?_))
   | exact ih0 _ _ _ _ _
   | exact spec_FatesValid.mono _ _
   | exact LeO.none _
   | refine LeO.ite ?_ ?_
   | refine LeO.bind ?_ (fun _ => ?_)
theorem spec_l5Link.mono : ∀ a0 a1 a2 a3 k,LeO (spec_l5Link.f k a0 a1 a2 a3) (spec_l5Link.f (k + 1) a0 a1 a2 a3):=by
 intro a0 a1 a2 a3 k
 have ih0:=spec_l5Link.mono_l k
 unfold spec_l5Link.f
 repeat' first
   | (with_reducible exact ih0 _ _ _ _ _)
   | (with_reducible exact spec_FatesValid.mono _ _)
   | (with_reducible exact LeO.refl _)
   | (with_reducible exact LeO.none _)
   | (with_reducible refine LeO.ite ?_ ?_)
   | (with_reducible refine LeO.bind ?_ (fun _ => ?_))
   | exact ih0 _ _ _ _ _
   | exact spec_FatesValid.mono _ _
   | exact LeO.none _
   | refine LeO.ite ?_ ?_
   | refine LeO.bind ?_ (fun _ => ?_)
set_option maxHeartbeats 8000000 in
set_option maxRecDepth 100000 in
theorem spec_l5Link.calls (k : Nat) (a0 : Int) (A1 : Option Addr) (c1 : Nat) (l1 : List (List Int)) (A2 : Option Addr) (c2 : Nat) (l2 : List Int) (A3 : Option Addr) (c3 : Nat) (l3 : List Int) (r : Bool) (w : World) (hr1 : Kd.C (Kd.slice 5 (Kd.int .u8)) w A1 l1.length l1) (hc1 : l1.length ≤ c1) (hr2 : Kd.C (Kd.int .i64) w A2 l2.length l2) (hc2 : l2.length ≤ c2) (hr3 : Kd.C (Kd.int .i64) w A3 l3.length l3) (hc3 : l3.length ≤ c3) (h : spec_l5Link.f k a0 l1 l2 l3 = some r) :
  Calls Try.prog 35 #[.int .i64 a0,.slice A1 l1.length c1,.slice A2 l2.length c2,.slice A3 l3.length c3] w fun e w' => e = .returned (.bool r) ∧ Drawn0 w w':=by
 have HR1:=mk_ hr1
 have HC1:=mk_ hc1
 clear hr1 hc1
 have HR2:=mk_ hr2
 have HC2:=mk_ hc2
 clear hr2 hc2
 have HR3:=mk_ hr3
 have HC3:=mk_ hc3
 clear hr3 hc3
 have H : (spec_l5Link.l0 k a0 l1 l2 l3 0) = some r:=h
 clear h
 have H':=mk_ H
 clear H
 go_enter Try.func35,Try.ntmps35
 go_wp2
 go_loopg [9] k (fun kq v9 w' => ∃ (x9_1 : Int),v9 = .int .i64 x9_1 ∧ Aside0 (spec_l5Link.l0 kq a0 l1 l2 l3 x9_1 = some r) ∧ Aside0 (kq ≤ k) ∧ Drawn0 w w')
 case atStart => exact ⟨(0),qf_,H',⟨Nat.le_refl _⟩,by repeat (first|exact Drawn0.refl _|apply Drawn0.step)⟩
 case round =>
  clear H'
  try clear c1
  try clear c2
  try clear p2
  try clear c3
  obtain ⟨x9_1,rfl,HA,HK1,⟨m1,rfl⟩⟩:=hrel
  cases gk with
  | zero => exact absurd HA.out (by simp [spec_l5Link.l0])
  | succ k1 =>
   have H:=HA.out
   clear HA
   simp only [spec_l5Link.l0] at H
   by_cases c5 : x9_1 < (l1.length : Int)
   ·rw [if_pos c5] at H
    have c5b0 : decide (x9_1 < (l1.length : Int)) = true:=decide_eq_true c5
    clear c5
    by_cases c6 : 0 ≤ x9_1
    ·rw [if_pos c6] at H
     have c6b0 : decide (0 ≤ x9_1) = true:=decide_eq_true c6
     clear c6
     by_cases c7 : ((rd_L4 l1 x9_1).length : Int) > 597
     ·rw [if_pos c7] at H
      have c7b0 : decide (597 < ((rd_L4 l1 x9_1).length : Int)) = true:=decide_eq_true c7
      have c7b1 : decide (597 < (rd_L4 l1 x9_1).length) = true:=decide_eq_true (by omega)
      clear c7
      obtain rfl:=Option.some.inj H
      have p189 : 0 ≤ (x9_1 : Int):=od_ qa_
      have q189 : x9_1 < (l1.length : Int):=od_ qa_
      obtain ⟨ad189,A189_0,c189_0,e189,hx189_0,hl189_0,hi189_0⟩:=at_L4 HR1.out x9_1 p189 q189
      cases e189
      have HR189_0:=mk_ hi189_0
      have HC189_0:=mk_ hl189_0
      clear hi189_0 hl189_0
      replace p189:=eq_true p189
      replace q189:=eq_true q189
      go_wp2
      go_ret
      exact ⟨by first|rfl|(simp;done)|(simp [*];done),by repeat (first|exact Drawn0.refl _|apply Drawn0.step)⟩
     ·rw [if_neg c7] at H
      have c7b0 : decide (597 < ((rd_L4 l1 x9_1).length : Int)) = false:=decide_eq_false c7
      have c7b1 : decide (597 < (rd_L4 l1 x9_1).length) = false:=decide_eq_false (by omega)
      clear c7
      have H':=mk_ H
      clear H
      have p189 : 0 ≤ (x9_1 : Int):=od_ qa_
      have q189 : x9_1 < (l1.length : Int):=od_ qa_
      obtain ⟨ad189,A189_0,c189_0,e189,hx189_0,hl189_0,hi189_0⟩:=at_L4 HR1.out x9_1 p189 q189
      cases e189
      have HR189_0:=mk_ hi189_0
      have HC189_0:=mk_ hl189_0
      clear hi189_0 hl189_0
      replace p189:=eq_true p189
      replace q189:=eq_true q189
      go_wp2
      go_roundg k1
      case measure => have:=HK1.out;omega
      case rel => exact ⟨(wrap64 (x9_1 + 1)),qf_,H',⟨by have:=HK1.out;omega⟩,by repeat (first|exact Drawn0.refl _|apply Drawn0.step)⟩
    ·rw [if_neg c6] at H
     exact absurd H (by simp)
   ·rw [if_neg c5] at H
    have c5b0 : decide (x9_1 < (l1.length : Int)) = false:=decide_eq_false c5
    clear c5
    replace H:=Option.bind_eq_some_iff.mp H
    obtain ⟨t190,A80,H⟩:=H
    replace H : (if t190 = true then (if (l1.length : Int) ≤ 60 then ((spec_FatesValid.f k1 l2).bind fun t191 => (if t191 = true then ((spec_FatesValid.f k1 l3).bind fun t192 => (some t192)) else (some false))) else (some false)) else (some false)) = some r:=H
    have A8:=mk_ A80
    clear A80
    by_cases c9 : t190 = true
    ·subst c9
     have H1 : (if (l1.length : Int) ≤ 60 then ((spec_FatesValid.f k1 l2).bind fun t191 => (if t191 = true then ((spec_FatesValid.f k1 l3).bind fun t192 => (some t192)) else (some false))) else (some false)) = some r:=by rw [if_pos rfl] at H;exact H
     clear H
     have H:=H1
     clear H1
     by_cases c10 : (l1.length : Int) ≤ 60
     ·rw [if_pos c10] at H
      have c10b0 : decide ((l1.length : Int) ≤ 60) = true:=decide_eq_true c10
      have c10b1 : decide (l1.length ≤ 60) = true:=decide_eq_true (by omega)
      clear c10
      replace H:=Option.bind_eq_some_iff.mp H
      obtain ⟨t191,A110,H⟩:=H
      replace H : (if t191 = true then ((spec_FatesValid.f k1 l3).bind fun t192 => (some t192)) else (some false)) = some r:=H
      have A11:=mk_ A110
      clear A110
      by_cases c12 : t191 = true
      ·subst c12
       have H1 : ((spec_FatesValid.f k1 l3).bind fun t192 => (some t192)) = some r:=by rw [if_pos rfl] at H;exact H
       clear H
       have H:=H1
       clear H1
       replace H:=Option.bind_eq_some_iff.mp H
       obtain ⟨t192,A130,H⟩:=H
       replace H : (some t192) = some r:=H
       have A13:=mk_ A130
       clear A130
       obtain rfl:=Option.some.inj H
       go_wp2_with (first|((with_reducible refine gate_callee (f:=36) rfl ?_);refine goesL_ (some 23) rfl rfl Try.func36 (by kernel_rfl) rfl #[.int .i64 a0,.int .i64 1,.int .i64 8] rfl qm_ ?_;(with_reducible refine (spec_l1In.calls a0 1 8 true _ A8.out).mono ?_);rintro e w' ⟨rfl,⟨nd,rfl⟩⟩;refine ⟨_,rfl,?_⟩)|(go_at_call 44;(with_reducible refine (spec_FatesValid.calls k1 _ _ l2 true _ ?side1 ?side2 A11.out).mono ?_);(case side1 => repeat (first|exact HR2.out|(with_reducible refine ca_ ?_ _)|(with_reducible refine cn_ ?_ _)|(with_reducible refine cd_ ?_)));(case side2 => exact HC2.out);rintro e w' ⟨rfl,⟨nd,rfl⟩⟩)|(go_at_call 44;(with_reducible refine (spec_FatesValid.calls k1 _ _ l3 t192 _ ?side1 ?side2 A13.out).mono ?_);(case side1 => repeat (first|exact HR3.out|(with_reducible refine ca_ ?_ _)|(with_reducible refine cn_ ?_ _)|(with_reducible refine cd_ ?_)));(case side2 => exact HC3.out);rintro e w' ⟨rfl,⟨nd,rfl⟩⟩))
       go_ret
       exact ⟨by first|rfl|(simp;done)|(simp [*];done),by repeat (first|exact Drawn0.refl _|apply Drawn0.step)⟩
      ·replace c12:=Bool.eq_false_iff.mpr c12
       subst c12
       have H1 : (some false) = some r:=by rw [if_neg (show ¬ (false = true) by decide)] at H;exact H
       clear H
       have H:=H1
       clear H1
       obtain rfl:=Option.some.inj H
       go_wp2_with (first|((with_reducible refine gate_callee (f:=36) rfl ?_);refine goesL_ (some 23) rfl rfl Try.func36 (by kernel_rfl) rfl #[.int .i64 a0,.int .i64 1,.int .i64 8] rfl qm_ ?_;(with_reducible refine (spec_l1In.calls a0 1 8 true _ A8.out).mono ?_);rintro e w' ⟨rfl,⟨nd,rfl⟩⟩;refine ⟨_,rfl,?_⟩)|(go_at_call 44;(with_reducible refine (spec_FatesValid.calls k1 _ _ l2 false _ ?side1 ?side2 A11.out).mono ?_);(case side1 => repeat (first|exact HR2.out|(with_reducible refine ca_ ?_ _)|(with_reducible refine cn_ ?_ _)|(with_reducible refine cd_ ?_)));(case side2 => exact HC2.out);rintro e w' ⟨rfl,⟨nd,rfl⟩⟩))
       go_ret
       exact ⟨by first|rfl|(simp;done)|(simp [*];done),by repeat (first|exact Drawn0.refl _|apply Drawn0.step)⟩
     ·rw [if_neg c10] at H
      have c10b0 : decide ((l1.length : Int) ≤ 60) = false:=decide_eq_false c10
      have c10b1 : decide (l1.length ≤ 60) = false:=decide_eq_false (by omega)
      clear c10
      obtain rfl:=Option.some.inj H
      go_wp2_with (first|((with_reducible refine gate_callee (f:=36) rfl ?_);refine goesL_ (some 23) rfl rfl Try.func36 (by kernel_rfl) rfl #[.int .i64 a0,.int .i64 1,.int .i64 8] rfl qm_ ?_;(with_reducible refine (spec_l1In.calls a0 1 8 true _ A8.out).mono ?_);rintro e w' ⟨rfl,⟨nd,rfl⟩⟩;refine ⟨_,rfl,?_⟩))
      go_ret
      exact ⟨by first|rfl|(simp;done)|(simp [*];done),by repeat (first|exact Drawn0.refl _|apply Drawn0.step)⟩
    ·replace c9:=Bool.eq_false_iff.mpr c9
     subst c9
     have H1 : (some false) = some r:=by rw [if_neg (show ¬ (false = true) by decide)] at H;exact H
     clear H
     have H:=H1
     clear H1
     obtain rfl:=Option.some.inj H
     go_wp2_with (first|((with_reducible refine gate_callee (f:=36) rfl ?_);refine goesL_ (some 23) rfl rfl Try.func36 (by kernel_rfl) rfl #[.int .i64 a0,.int .i64 1,.int .i64 8] rfl qm_ ?_;(with_reducible refine (spec_l1In.calls a0 1 8 false _ A8.out).mono ?_);rintro e w' ⟨rfl,⟨nd,rfl⟩⟩;refine ⟨_,rfl,?_⟩))
     go_ret
     exact ⟨by first|rfl|(simp;done)|(simp [*];done),by repeat (first|exact Drawn0.refl _|apply Drawn0.step)⟩

/-! ### spec_l1Data: function 97 -/
def spec_l1Data.f (l0 : List Int) : Option (Bool):=some (decide ((l0.length : Int) ≤ 600))
set_option maxHeartbeats 8000000 in
set_option maxRecDepth 100000 in
theorem spec_l1Data.calls (A0 : Option Addr) (c0 : Nat) (l0 : List Int) (r : Bool) (w : World) (hr0 : Kd.C (Kd.int .u8) w A0 l0.length l0) (hc0 : l0.length ≤ c0) (h : spec_l1Data.f l0 = some r) :
  Calls Try.prog 97 #[.slice A0 l0.length c0] w fun e w' => e = .returned (.bool r) ∧ Drawn0 w w':=by
 have HR0:=mk_ hr0
 have HC0:=mk_ hc0
 clear hr0 hc0
 have H : (some (decide ((l0.length : Int) ≤ 600))) = some r:=h
 clear h
 obtain rfl:=Option.some.inj H
 go_enter Try.func97,Try.ntmps97
 go_wp2
 go_ret
 exact ⟨by first|rfl|(simp;done)|(simp [*];done),by repeat (first|exact Drawn0.refl _|apply Drawn0.step)⟩

/-! ### spec_l2Word: function 103 -/
def spec_l2Word.f (a0 : Int) : Option (Bool):=(spec_l1In.f a0 0 65535).bind fun t193 => (some t193)
set_option maxHeartbeats 8000000 in
set_option maxRecDepth 100000 in
theorem spec_l2Word.calls (a0 : Int) (r : Bool) (w : World) (h : spec_l2Word.f a0 = some r) :
  Calls Try.prog 103 #[.int .i64 a0] w fun e w' => e = .returned (.bool r) ∧ Drawn0 w w':=by
 have H : ((spec_l1In.f a0 0 65535).bind fun t193 => (some t193)) = some r:=h
 clear h
 replace H:=Option.bind_eq_some_iff.mp H
 obtain ⟨t193,A20,H⟩:=H
 replace H : (some t193) = some r:=H
 have A2:=mk_ A20
 clear A20
 obtain rfl:=Option.some.inj H
 go_enter Try.func103,Try.ntmps103
 go_wp2_with (first|((with_reducible refine gate_callee (f:=36) rfl ?_);refine goesL_ (some 4) rfl rfl Try.func36 (by kernel_rfl) rfl #[.int .i64 a0,.int .i64 0,.int .i64 65535] rfl qm_ ?_;(with_reducible refine (spec_l1In.calls a0 0 65535 t193 _ A2.out).mono ?_);rintro e w' ⟨rfl,⟨nd,rfl⟩⟩;refine ⟨_,rfl,?_⟩))
 go_ret
 exact ⟨by first|rfl|(simp;done)|(simp [*];done),by repeat (first|exact Drawn0.refl _|apply Drawn0.step)⟩

/-! ### spec_CrcStep: function 101 -/
def spec_CrcStep.l0 : Nat → Int → Int → Option (Int)
 | 0,_,_ => none
 | k + 1,x0,x5 => if x5 < 8 then (if (wrap64 (Int.tdiv x0 32768)) = 1 then (spec_CrcStep.l0 k (Go.bits .xor .i64 (Int.tmod (wrap64 (x0 * 2)) 65536) 4129) (wrap64 (x5 + 1))) else (spec_CrcStep.l0 k (Int.tmod (wrap64 (x0 * 2)) 65536) (wrap64 (x5 + 1)))) else (some x0)
def spec_CrcStep.f (k : Nat) (a0 : Int) (a1 : Int) : Option (Int):=(spec_l2Word.f a0).bind fun t194 => (if t194 = true then (spec_CrcStep.l0 k (Go.bits .xor .i64 a0 (wrap64 ((wrap64 (a1)) * 256))) 0) else (some (-1)))
theorem spec_CrcStep.mono_l : ∀ k,(∀ y0 y1,LeO (spec_CrcStep.l0 k y0 y1) (spec_CrcStep.l0 (k + 1) y0 y1))
 | 0 => fun _ _ r h => by simp [spec_CrcStep.l0] at h
 | k + 1 => by
  have ih0:=spec_CrcStep.mono_l k
  ·intro y0 y1
   unfold spec_CrcStep.l0
   repeat' first
   | (with_reducible exact ih0 _ _)
   | (with_reducible exact LeO.refl _)
   | (with_reducible exact LeO.none _)
   | (with_reducible refine LeO.ite ?_ ?_)
   | (with_reducible refine LeO.bind ?_ (fun _ => ?_))
   | exact ih0 _ _
   | exact LeO.none _
   | refine LeO.ite ?_ ?_
   | refine LeO.bind ?_ (fun _ => ?_)
theorem spec_CrcStep.mono : ∀ a0 a1 k,LeO (spec_CrcStep.f k a0 a1) (spec_CrcStep.f (k + 1) a0 a1):=by
 intro a0 a1 k
 have ih0:=spec_CrcStep.mono_l k
 unfold spec_CrcStep.f
 repeat' first
   | (with_reducible exact ih0 _ _)
   | (with_reducible exact LeO.refl _)
   | (with_reducible exact LeO.none _)
   | (with_reducible refine LeO.ite ?_ ?_)
   | (with_reducible refine LeO.bind ?_ (fun _ => ?_))
   | exact ih0 _ _
   | exact LeO.none _
   | refine LeO.ite ?_ ?_
   | refine LeO.bind ?_ (fun _ => ?_)
set_option maxHeartbeats 8000000 in
set_option maxRecDepth 100000 in
theorem spec_CrcStep.calls (k : Nat) (a0 : Int) (a1 : Int) (r : Int) (w : World) (h : spec_CrcStep.f k a0 a1 = some r) :
  Calls Try.prog 101 #[.int .i64 a0,.int .u8 a1] w fun e w' => e = .returned (.int .i64 r) ∧ Drawn0 w w':=by
 have H : ((spec_l2Word.f a0).bind fun t194 => (if t194 = true then (spec_CrcStep.l0 k (Go.bits .xor .i64 a0 (wrap64 ((wrap64 (a1)) * 256))) 0) else (some (-1)))) = some r:=h
 clear h
 replace H:=Option.bind_eq_some_iff.mp H
 obtain ⟨t194,A30,H⟩:=H
 replace H : (if t194 = true then (spec_CrcStep.l0 k (Go.bits .xor .i64 a0 (wrap64 ((wrap64 (a1)) * 256))) 0) else (some (-1))) = some r:=H
 have A3:=mk_ A30
 clear A30
 by_cases c4 : t194 = true
 ·subst c4
  have H1 : (spec_CrcStep.l0 k (Go.bits .xor .i64 a0 (wrap64 ((wrap64 (a1)) * 256))) 0) = some r:=by rw [if_pos rfl] at H;exact H
  clear H
  have H:=H1
  clear H1
  have H':=mk_ H
  clear H
  go_enter Try.func101,Try.ntmps101
  go_wp2_with (first|((with_reducible refine gate_callee (f:=103) rfl ?_);refine goesL_ (some 8) rfl rfl Try.func103 (by kernel_rfl) rfl #[.int .i64 a0] rfl qm_ ?_;(with_reducible refine (spec_l2Word.calls a0 true _ A3.out).mono ?_);rintro e w' ⟨rfl,⟨nd,rfl⟩⟩;refine ⟨_,rfl,?_⟩))
  go_loopg [0,5] k (fun kq v0 v5 w' => ∃ (x0_1 : Int) (x5_1 : Int),v0 = .int .i64 x0_1 ∧ v5 = .int .i64 x5_1 ∧ Aside0 (spec_CrcStep.l0 kq x0_1 x5_1 = some r) ∧ Aside0 (kq ≤ k) ∧ Drawn0 w w')
  case atStart => exact ⟨(Go.bits .xor .i64 a0 (wrap64 ((wrap64 (a1)) * 256))),(0),qf_,qf_,H',⟨Nat.le_refl _⟩,by repeat (first|exact Drawn0.refl _|apply Drawn0.step)⟩
  case round =>
   clear H'
   try clear c1
   try clear p2
   try clear c4
   obtain ⟨x0_1,x5_1,rfl,rfl,HA,HK1,⟨m1,rfl⟩⟩:=hrel
   cases gk with
   | zero => exact absurd HA.out (by simp [spec_CrcStep.l0])
   | succ k1 =>
    have H:=HA.out
    clear HA
    simp only [spec_CrcStep.l0] at H
    by_cases c5 : x5_1 < 8
    ·rw [if_pos c5] at H
     have c5b0 : decide (x5_1 < 8) = true:=decide_eq_true c5
     clear c5
     by_cases c6 : (wrap64 (Int.tdiv x0_1 32768)) = 1
     ·rw [if_pos c6] at H
      have c6b0 : ((wrap64 (Int.tdiv x0_1 32768)) == 1) = true:=beq_iff_eq.mpr c6
      have c6b1 : ((wrap64 (Int.tdiv x0_1 32768)) != 1) = false:=bne_eq_false_iff_eq.mpr c6
      clear c6
      have H':=mk_ H
      clear H
      go_wp2
      go_roundg k1
      case measure => have:=HK1.out;omega
      case rel => exact ⟨(Go.bits .xor .i64 (Int.tmod (wrap64 (x0_1 * 2)) 65536) 4129),(wrap64 (x5_1 + 1)),qf_,qf_,H',⟨by have:=HK1.out;omega⟩,by repeat (first|exact Drawn0.refl _|apply Drawn0.step)⟩
     ·rw [if_neg c6] at H
      have c6b0 : ((wrap64 (Int.tdiv x0_1 32768)) == 1) = false:=beq_eq_false_iff_ne.mpr c6
      have c6b1 : ((wrap64 (Int.tdiv x0_1 32768)) != 1) = true:=bne_iff_ne.mpr c6
      have H':=mk_ H
      clear H
      go_wp2
      go_roundg k1
      case measure => have:=HK1.out;omega
      case rel => exact ⟨(Int.tmod (wrap64 (x0_1 * 2)) 65536),(wrap64 (x5_1 + 1)),qf_,qf_,H',⟨by have:=HK1.out;omega⟩,by repeat (first|exact Drawn0.refl _|apply Drawn0.step)⟩
    ·rw [if_neg c5] at H
     have c5b0 : decide (x5_1 < 8) = false:=decide_eq_false c5
     clear c5
     obtain rfl:=Option.some.inj H
     go_wp2
     go_ret
     exact ⟨by first|rfl|(simp;done)|(simp [*];done),by repeat (first|exact Drawn0.refl _|apply Drawn0.step)⟩
 ·replace c4:=Bool.eq_false_iff.mpr c4
  subst c4
  have H1 : (some (-1)) = some r:=by rw [if_neg (show ¬ (false = true) by decide)] at H;exact H
  clear H
  have H:=H1
  clear H1
  obtain rfl:=Option.some.inj H
  go_enter Try.func101,Try.ntmps101
  go_wp2_with (first|((with_reducible refine gate_callee (f:=103) rfl ?_);refine goesL_ (some 8) rfl rfl Try.func103 (by kernel_rfl) rfl #[.int .i64 a0] rfl qm_ ?_;(with_reducible refine (spec_l2Word.calls a0 false _ A3.out).mono ?_);rintro e w' ⟨rfl,⟨nd,rfl⟩⟩;refine ⟨_,rfl,?_⟩))
  go_ret
  exact ⟨by first|rfl|(simp;done)|(simp [*];done),by repeat (first|exact Drawn0.refl _|apply Drawn0.step)⟩

/-! ### spec_CrcOf: function 96 -/
def spec_CrcOf.l0 : Nat → List Int → Int → Int → Option (Int)
 | 0,_,_,_ => none
 | k + 1,x0,x3,x4 => if x4 < (x0.length : Int) then (if 0 ≤ x4 then ((spec_CrcStep.f k x3 (rd x0 x4)).bind fun t197 => (spec_CrcOf.l0 k x0 t197 (wrap64 (x4 + 1)))) else (none)) else (some x3)
def spec_CrcOf.f (k : Nat) (l0 : List Int) : Option (Int):=(spec_l1Data.f l0).bind fun t195 => (if t195 = true then (spec_CrcOf.l0 k l0 65535 0) else (some (-1)))
theorem spec_CrcOf.mono_l : ∀ k,(∀ y0 y1 y2,LeO (spec_CrcOf.l0 k y0 y1 y2) (spec_CrcOf.l0 (k + 1) y0 y1 y2))
 | 0 => fun _ _ _ r h => by simp [spec_CrcOf.l0] at h
 | k + 1 => by
  have ih0:=spec_CrcOf.mono_l k
  ·intro y0 y1 y2
   unfold spec_CrcOf.l0
   repeat' first
   | (with_reducible exact ih0 _ _ _)
   | (with_reducible exact spec_CrcStep.mono _ _ _)
   | (with_reducible exact LeO.refl _)
   | (with_reducible exact LeO.none _)
   | (with_reducible refine LeO.ite ?_ ?_)
   | (with_reducible refine LeO.bind ?_ (fun _ => ?_))
   | exact ih0 _ _ _
   | exact spec_CrcStep.mono _ _ _
   | exact LeO.none _
   | refine LeO.ite ?_ ?_
   | refine LeO.bind ?_ (fun _ => ?_)
theorem spec_CrcOf.mono : ∀ a0 k,LeO (spec_CrcOf.f k a0) (spec_CrcOf.f (k + 1) a0):=by
 intro a0 k
 have ih0:=spec_CrcOf.mono_l k
 unfold spec_CrcOf.f
 repeat' first
   | (with_reducible exact ih0 _ _ _)
   | (with_reducible exact spec_CrcStep.mono _ _ _)
   | (with_reducible exact LeO.refl _)
   | (with_reducible exact LeO.none _)
   | (with_reducible refine LeO.ite ?_ ?_)
   | (with_reducible refine LeO.bind ?_ (fun _ => ?_))
   | exact ih0 _ _ _
   | exact spec_CrcStep.mono _ _ _
   | exact LeO.none _
   | refine LeO.ite ?_ ?_
   | refine LeO.bind ?_ (fun _ => ?_)
set_option maxHeartbeats 8000000 in
set_option maxRecDepth 100000 in
theorem spec_CrcOf.calls (k : Nat) (A0 : Option Addr) (c0 : Nat) (l0 : List Int) (r : Int) (w : World) (hr0 : Kd.C (Kd.int .u8) w A0 l0.length l0) (hc0 : l0.length ≤ c0) (h : spec_CrcOf.f k l0 = some r) :
  Calls Try.prog 96 #[.slice A0 l0.length c0] w fun e w' => e = .returned (.int .i64 r) ∧ Drawn0 w w':=by
 have HR0:=mk_ hr0
 have HC0:=mk_ hc0
 clear hr0 hc0
 have H : ((spec_l1Data.f l0).bind fun t195 => (if t195 = true then (spec_CrcOf.l0 k l0 65535 0) else (some (-1)))) = some r:=h
 clear h
 replace H:=Option.bind_eq_some_iff.mp H
 obtain ⟨t195,A20,H⟩:=H
 replace H : (if t195 = true then (spec_CrcOf.l0 k l0 65535 0) else (some (-1))) = some r:=H
 have A2:=mk_ A20
 clear A20
 by_cases c3 : t195 = true
 ·subst c3
  have H1 : (spec_CrcOf.l0 k l0 65535 0) = some r:=by rw [if_pos rfl] at H;exact H
  clear H
  have H:=H1
  clear H1
  have H':=mk_ H
  clear H
  go_enter Try.func96,Try.ntmps96
  go_wp2_with (first|((with_reducible refine gate_callee (f:=97) rfl ?_);refine goesL_ (some 6) rfl rfl Try.func97 (by kernel_rfl) rfl #[.slice A0 l0.length c0] rfl qm_ ?_;(with_reducible refine (spec_l1Data.calls _ _ l0 true _ ?side1 ?side2 A2.out).mono ?_);(case side1 => repeat (first|exact HR0.out|(with_reducible refine ca_ ?_ _)|(with_reducible refine cn_ ?_ _)|(with_reducible refine cd_ ?_)));(case side2 => exact HC0.out);rintro e w' ⟨rfl,⟨nd,rfl⟩⟩;refine ⟨_,rfl,?_⟩))
  go_loopg [3,4] k (fun kq v3 v4 w' => ∃ (x3_1 : Int) (x4_1 : Int),v3 = .int .i64 x3_1 ∧ v4 = .int .i64 x4_1 ∧ Aside0 (spec_CrcOf.l0 kq l0 x3_1 x4_1 = some r) ∧ Aside0 (kq ≤ k) ∧ Drawn0 w w')
  case atStart => exact ⟨(65535),(0),qf_,qf_,H',⟨Nat.le_refl _⟩,by repeat (first|exact Drawn0.refl _|apply Drawn0.step)⟩
  case round =>
   clear H'
   try clear p2
   try clear c3
   obtain ⟨x3_1,x4_1,rfl,rfl,HA,HK1,⟨m1,rfl⟩⟩:=hrel
   cases gk with
   | zero => exact absurd HA.out (by simp [spec_CrcOf.l0])
   | succ k1 =>
    have H:=HA.out
    clear HA
    simp only [spec_CrcOf.l0] at H
    by_cases c4 : x4_1 < (l0.length : Int)
    ·rw [if_pos c4] at H
     have c4b0 : decide (x4_1 < (l0.length : Int)) = true:=decide_eq_true c4
     clear c4
     by_cases c5 : 0 ≤ x4_1
     ·rw [if_pos c5] at H
      have c5b0 : decide (0 ≤ x4_1) = true:=decide_eq_true c5
      clear c5
      replace H:=Option.bind_eq_some_iff.mp H
      obtain ⟨t197,A60,H⟩:=H
      replace H : (spec_CrcOf.l0 k1 l0 t197 (wrap64 (x4_1 + 1))) = some r:=H
      have A6:=mk_ A60
      clear A60
      have H':=mk_ H
      clear H
      have p196 : 0 ≤ (x4_1 : Int):=od_ qa_
      have q196 : x4_1 < (l0.length : Int):=od_ qa_
      obtain ⟨ad196,e196,hx196_0⟩:=Kd.at_int HR0.out x4_1 p196 q196
      cases e196
      replace p196:=eq_true p196
      replace q196:=eq_true q196
      go_wp2_with (first|((with_reducible refine gate_callee (f:=101) rfl ?_);refine goesL_ (some 19) rfl rfl Try.func101 (by kernel_rfl) rfl #[.int .i64 x3_1,.int .u8 (rd l0 x4_1)] rfl qm_ ?_;(with_reducible refine (spec_CrcStep.calls k1 x3_1 (rd l0 x4_1) t197 _ A6.out).mono ?_);rintro e w' ⟨rfl,⟨nd,rfl⟩⟩;refine ⟨_,rfl,?_⟩))
      go_roundg k1
      case measure => have:=HK1.out;omega
      case rel => exact ⟨(t197),(wrap64 (x4_1 + 1)),qf_,qf_,H',⟨by have:=HK1.out;omega⟩,by repeat (first|exact Drawn0.refl _|apply Drawn0.step)⟩
     ·rw [if_neg c5] at H
      exact absurd H (by simp)
    ·rw [if_neg c4] at H
     have c4b0 : decide (x4_1 < (l0.length : Int)) = false:=decide_eq_false c4
     clear c4
     obtain rfl:=Option.some.inj H
     go_wp2
     go_ret
     exact ⟨by first|rfl|(simp;done)|(simp [*];done),by repeat (first|exact Drawn0.refl _|apply Drawn0.step)⟩
 ·replace c3:=Bool.eq_false_iff.mpr c3
  subst c3
  have H1 : (some (-1)) = some r:=by rw [if_neg (show ¬ (false = true) by decide)] at H;exact H
  clear H
  have H:=H1
  clear H1
  obtain rfl:=Option.some.inj H
  go_enter Try.func96,Try.ntmps96
  go_wp2_with (first|((with_reducible refine gate_callee (f:=97) rfl ?_);refine goesL_ (some 6) rfl rfl Try.func97 (by kernel_rfl) rfl #[.slice A0 l0.length c0] rfl qm_ ?_;(with_reducible refine (spec_l1Data.calls _ _ l0 false _ ?side1 ?side2 A2.out).mono ?_);(case side1 => repeat (first|exact HR0.out|(with_reducible refine ca_ ?_ _)|(with_reducible refine cn_ ?_ _)|(with_reducible refine cd_ ?_)));(case side2 => exact HC0.out);rintro e w' ⟨rfl,⟨nd,rfl⟩⟩;refine ⟨_,rfl,?_⟩))
  go_ret
  exact ⟨by first|rfl|(simp;done)|(simp [*];done),by repeat (first|exact Drawn0.refl _|apply Drawn0.step)⟩

/-! ### spec_AddCrc: function 87 -/
def spec_AddCrc.f (k : Nat) (l0 : List Int) : Option (List Int × Bool):=if (wrap64 ((l0.length : Int) + 2)) > 600 then (some ((([] : List Int)),false)) else ((spec_CrcOf.f k l0).bind fun t201 => ((some (([] : List Int) : List Int)).bind fun y202 => (if y202.length + l0.length < 140737488355328 then ((some (y202 ++ l0 : List Int)).bind fun y205 => ((some (([(wrap64 (Int.tdiv t201 256)) % 256,(Int.tmod t201 256) % 256] : List Int) : List Int)).bind fun y208 => (if y205.length + y208.length < 140737488355328 then (some ((y205 ++ y208),true)) else (none)))) else (none))))
theorem spec_AddCrc.mono : ∀ a0 k,LeO (spec_AddCrc.f k a0) (spec_AddCrc.f (k + 1) a0):=by
 intro a0 k
 unfold spec_AddCrc.f
 repeat' first
   | (with_reducible exact spec_CrcOf.mono _ _)
   | (with_reducible exact LeO.refl _)
   | (with_reducible exact LeO.none _)
   | (with_reducible refine LeO.ite ?_ ?_)
   | (with_reducible refine LeO.bind ?_ (fun _ => ?_))
   | exact spec_CrcOf.mono _ _
   | exact LeO.none _
   | refine LeO.ite ?_ ?_
   | refine LeO.bind ?_ (fun _ => ?_)
set_option maxHeartbeats 8000000 in
set_option maxRecDepth 100000 in
theorem spec_AddCrc.calls (k : Nat) (A0 : Option Addr) (c0 : Nat) (l0 : List Int) (r1 : List Int) (r2 : Bool) (w : World) (hr0 : Kd.C (Kd.int .u8) w A0 l0.length l0) (hc0 : l0.length ≤ c0) (h : spec_AddCrc.f k l0 = some (r1,r2)) :
  Calls Try.prog 87 #[.slice A0 l0.length c0] w fun e w' => ∃ v0_ : Value,e = .returned (.tuple #[v0_,.bool r2]) ∧ Kd.R (Kd.int .u8) 5 w' w.heap.size (fun _ => True) v0_ r1 ∧ Below w.heap.size w w':=by
 have HR0:=mk_ hr0
 have HC0:=mk_ hc0
 clear hr0 hc0
 have HB:=mk_ (Below.refl w.heap.size w)
 have H : (if (wrap64 ((l0.length : Int) + 2)) > 600 then (some ((([] : List Int)),false)) else ((spec_CrcOf.f k l0).bind fun t201 => ((some (([] : List Int) : List Int)).bind fun y202 => (if y202.length + l0.length < 140737488355328 then ((some (y202 ++ l0 : List Int)).bind fun y205 => ((some (([(wrap64 (Int.tdiv t201 256)) % 256,(Int.tmod t201 256) % 256] : List Int) : List Int)).bind fun y208 => (if y205.length + y208.length < 140737488355328 then (some ((y205 ++ y208),true)) else (none)))) else (none))))) = some (r1,r2):=h
 clear h
 by_cases c2 : (wrap64 ((l0.length : Int) + 2)) > 600
 ·rw [if_pos c2] at H
  have c2b0 : decide (600 < (wrap64 ((l0.length : Int) + 2))) = true:=decide_eq_true c2
  clear c2
  obtain ⟨y198,hy198⟩ : ∃ y_ : List Int,y_ = (([] : List Int)):=⟨_,rfl⟩
  replace H : (some (y198,false)) = some (r1,r2):=by first|(rw [hy198];with_reducible exact H)|(have H2_:=(Option.bind_some _ _).symm.trans H;rw [hy198];with_reducible exact H2_)|(have H2_:=(Option.bind_some _ _).symm.trans H;with_reducible exact H2_)|with_reducible exact H|(rw [hy198];exact H)|exact H
  have Ny198:=mk_ hy198
  clear hy198
  simp only [Option.some.injEq,Prod.mk.injEq] at H
  obtain ⟨rfl,rfl⟩:=H
  go_enter Try.func87,Try.ntmps87
  go_wp2_with (first|((with_reducible refine gate_dst (N:=9) rfl ?_);refine Kd.R_lit (Kd.int .u8) _ 5 ?hg (N:=9) ?hd (xs:=([] : List Int)) (inner:=[]) (ok:=fun _ => True) (okp:=fun _ => True) ?hr ?hp (fun _ hk => hk) trivial (Below.refl _ _) (Nat.le_refl _) (by simp) ?_;(case hd => rfl);(case hg => rfl);(case hr => first|(go_simp;done)|(go_simp;rfl));(case hp => exact (Reps.none _ _));intro v199 w3 ho4 hb hg_ hnew_;clear hg_ hnew_;(first|rw [← Ny198.out] at ho4|(simp only [Int.reduceToNat] at ho4;rw [← Ny198.out] at ho4));have n0_:=mk_ (Kd.R_lower ho4 (bz_ (qb_ HB)));have n1_:=mk_ (st_ (qb_ HB) hb);clear HB;have HO200:=n0_;have HB:=n1_;clear n0_ n1_ hb ho4))
  go_ret2
  exact ⟨_,qe_,qr_ HO200,u0_ HB⟩
 ·rw [if_neg c2] at H
  have c2b0 : decide (600 < (wrap64 ((l0.length : Int) + 2))) = false:=decide_eq_false c2
  clear c2
  replace H:=Option.bind_eq_some_iff.mp H
  obtain ⟨t201,A50,H⟩:=H
  replace H : ((some (([] : List Int) : List Int)).bind fun y202 => (if y202.length + l0.length < 140737488355328 then ((some (y202 ++ l0 : List Int)).bind fun y205 => ((some (([(wrap64 (Int.tdiv t201 256)) % 256,(Int.tmod t201 256) % 256] : List Int) : List Int)).bind fun y208 => (if y205.length + y208.length < 140737488355328 then (some ((y205 ++ y208),true)) else (none)))) else (none))) = some (r1,r2):=H
  have A5:=mk_ A50
  clear A50
  obtain ⟨y202,hy202⟩ : ∃ y_ : List Int,y_ = (([] : List Int)):=⟨_,rfl⟩
  replace H : (if y202.length + l0.length < 140737488355328 then ((some (y202 ++ l0 : List Int)).bind fun y205 => ((some (([(wrap64 (Int.tdiv t201 256)) % 256,(Int.tmod t201 256) % 256] : List Int) : List Int)).bind fun y208 => (if y205.length + y208.length < 140737488355328 then (some ((y205 ++ y208),true)) else (none)))) else (none)) = some (r1,r2):=by first|(rw [hy202];with_reducible exact H)|(have H2_:=(Option.bind_some _ _).symm.trans H;rw [hy202];with_reducible exact H2_)|(have H2_:=(Option.bind_some _ _).symm.trans H;with_reducible exact H2_)|with_reducible exact H|(rw [hy202];exact H)|exact H
  have Ny202:=mk_ hy202
  clear hy202
  by_cases c6 : y202.length + l0.length < 140737488355328
  ·rw [if_pos c6] at H
   have LMc6:=mk_ c6
   clear c6
   obtain ⟨y205,hy205⟩ : ∃ y_ : List Int,y_ = (y202 ++ l0):=⟨_,rfl⟩
   replace H : ((some (([(wrap64 (Int.tdiv t201 256)) % 256,(Int.tmod t201 256) % 256] : List Int) : List Int)).bind fun y208 => (if y205.length + y208.length < 140737488355328 then (some ((y205 ++ y208),true)) else (none))) = some (r1,r2):=by first|(rw [hy205];with_reducible exact H)|(have H2_:=(Option.bind_some _ _).symm.trans H;rw [hy205];with_reducible exact H2_)|(have H2_:=(Option.bind_some _ _).symm.trans H;with_reducible exact H2_)|with_reducible exact H|(rw [hy205];exact H)|exact H
   have Ny205:=mk_ hy205
   clear hy205
   obtain ⟨y208,hy208⟩ : ∃ y_ : List Int,y_ = (([(wrap64 (Int.tdiv t201 256)) % 256,(Int.tmod t201 256) % 256] : List Int)):=⟨_,rfl⟩
   replace H : (if y205.length + y208.length < 140737488355328 then (some ((y205 ++ y208),true)) else (none)) = some (r1,r2):=by first|(rw [hy208];with_reducible exact H)|(have H2_:=(Option.bind_some _ _).symm.trans H;rw [hy208];with_reducible exact H2_)|(have H2_:=(Option.bind_some _ _).symm.trans H;with_reducible exact H2_)|with_reducible exact H|(rw [hy208];exact H)|exact H
   have Ny208:=mk_ hy208
   clear hy208
   by_cases c7 : y205.length + y208.length < 140737488355328
   ·rw [if_pos c7] at H
    have LMc7:=mk_ c7
    clear c7
    obtain ⟨y211,hy211⟩ : ∃ y_ : List Int,y_ = (y205 ++ y208):=⟨_,rfl⟩
    replace H : (some (y211,true)) = some (r1,r2):=by first|(rw [hy211];with_reducible exact H)|(have H2_:=(Option.bind_some _ _).symm.trans H;rw [hy211];with_reducible exact H2_)|(have H2_:=(Option.bind_some _ _).symm.trans H;with_reducible exact H2_)|with_reducible exact H|(rw [hy211];exact H)|exact H
    have Ny211:=mk_ hy211
    clear hy211
    simp only [Option.some.injEq,Prod.mk.injEq] at H
    obtain ⟨rfl,rfl⟩:=H
    go_enter Try.func87,Try.ntmps87
    go_wp2_with (first|((with_reducible refine gate_callee (f:=96) rfl ?_);refine goesL_ (some 11) rfl rfl Try.func96 (by kernel_rfl) rfl #[.slice A0 l0.length c0] rfl qm_ ?_;(with_reducible refine (spec_CrcOf.calls k _ _ l0 t201 _ ?side1 ?side2 A5.out).mono ?_);(case side1 => repeat (first|exact HR0.out|(with_reducible refine ca_ ?_ _)|(with_reducible refine cn_ ?_ _)|(with_reducible refine cd_ ?_)));(case side2 => exact HC0.out);rintro e w' ⟨rfl,⟨nd,rfl⟩⟩;refine ⟨_,rfl,?_⟩)|((with_reducible refine gate_dst (N:=12) rfl ?_);refine Kd.R_lit (Kd.int .u8) _ 5 ?hg (N:=12) ?hd (xs:=([] : List Int)) (inner:=[]) (ok:=fun _ => True) (okp:=fun _ => True) ?hr ?hp (fun _ hk => hk) trivial (Below.refl _ _) (Nat.le_refl _) (by simp) ?_;(case hd => rfl);(case hg => rfl);(case hr => first|(go_simp;done)|(go_simp;rfl));(case hp => exact (Reps.none _ _));intro v203 w8 ho9 hb hg_ hnew_;clear hg_ hnew_;(first|rw [← Ny202.out] at ho9|(simp only [Int.reduceToNat] at ho9;rw [← Ny202.out] at ho9));have n0_:=mk_ (Kd.R_lower ho9 (bz_ (qb_ HB)));have n1_:=mk_ (st_ (qb_ HB) hb);clear HB;have HO204:=n0_;have HB:=n1_;clear n0_ n1_ hb ho9)|((with_reducible refine gate_builtin (b:=.append) (xs:=#[.tmp 12,.tmp 13]) rfl ?_);at_builtin;refine Kd.R_append_rows (Kd.int .u8) (w0:=w) w.heap.size rfl (.tmp 12) (.tmp 13) 22 5 (.int .u8 0) 1 rfl Try.underlying22 info5 rfl (by decide) (by omega) v203 y202 l0 _ _ _ (fun _ => True) (fun _ => False) rfl rfl ?aO ?aR (fun _ _ h => h) (fun _ h => h.elim) ?aF ?aB ?aS ?aL ?_;(case aR => exact qn_ HR0 HB);(case aB => exact (qb_ HB));(case aF => exact (fun _ _ => trivial));(case aO => exact (qr_ HO204));(case aS => exact (bz_ (qb_ HB)));(case aL => have:=LMc6.out;omega);intro v206 w10 ho hb hg hat;rw [← Ny205.out] at ho;have n0_:=mk_ (hb);have n1_:=mk_ (ho);clear HB HO204;have HB:=n0_;have HO207:=n1_;clear n0_ n1_ ho hb hg hat)|((with_reducible refine gate_dst (N:=21) rfl ?_);refine Kd.R_lit (Kd.int .u8) _ 5 ?hg (N:=21) ?hd (xs:=([(wrap64 (Int.tdiv t201 256)) % 256,(Int.tmod t201 256) % 256] : List Int)) (inner:=[.int .u8 ((wrap64 (Int.tdiv t201 256)) % 256),.int .u8 ((Int.tmod t201 256) % 256)]) (ok:=fun _ => True) (okp:=fun _ => True) ?hr ?hp (fun _ hk => hk) trivial (Below.refl _ _) (Nat.le_refl _) (by simp) ?_;(case hd => rfl);(case hg => rfl);(case hr => first|(go_simp;done)|(go_simp;rfl));(case hp => exact (Reps.one (show Kd.M (Kd.int .u8) _ _ _ ((wrap64 (Int.tdiv t201 256)) % 256) [.int .u8 ((wrap64 (Int.tdiv t201 256)) % 256)] from rfl) (Reps.one (show Kd.M (Kd.int .u8) _ _ _ ((Int.tmod t201 256) % 256) [.int .u8 ((Int.tmod t201 256) % 256)] from rfl) (Reps.none _ _))));intro v209 w11 ho12 hb hg_ hnew_;clear hg_ hnew_;(first|rw [← Ny208.out] at ho12|(simp only [Int.reduceToNat] at ho12;rw [← Ny208.out] at ho12));have n0_:=mk_ (re_ (qr_ HO207) (Kd.R_base ho12) hb);have n1_:=mk_ (Kd.R_lower (Kd.R_new' ho12 (Kd.R_lt (qr_ HO207))) (bz_ (qb_ HB)));have n2_:=mk_ (st_ (qb_ HB) hb);clear HO207 HB;have HO207:=n0_;have HO210:=n1_;have HB:=n2_;clear n0_ n1_ n2_ hb ho12;obtain ⟨Ao14,co14,eo14⟩:=Kd.R_slice HO210.out;subst eo14)|((with_reducible refine gate_builtin (b:=.append) (xs:=#[.tmp 14,.tmp 21]) rfl ?_);at_builtin;refine Kd.R_append_rows (Kd.int .u8) (w0:=w) w.heap.size rfl (.tmp 14) (.tmp 21) 22 5 (.int .u8 0) 1 rfl Try.underlying22 info5 rfl (by decide) (by omega) v206 y205 y208 _ _ _ (fun k_ => some k_ ≠ (.slice Ao14 y208.length co14 : Value).ownBlock) (fun _ => False) rfl rfl ?aO ?aR (fun _ _ h => h) (fun _ h => h.elim) ?aF ?aB ?aS ?aL ?_;(case aR => repeat (first|exact (rr_ HO210.out).2.2|(with_reducible refine ca_ ?_ _)|(with_reducible refine cn_ ?_ _)|(with_reducible refine cd_ ?_)));(case aB => exact (qb_ HB));(case aF => exact (fun k_ hk => Kd.fresh' (Kd.R_lt (qr_ HO210)) k_ hk));(case aO => exact (by (with_reducible repeat (first|apply ra_|apply rn_|apply rd_));exact rm_ HO207.out (λ_ h=>h.2)));(case aS => exact (bz_ (qb_ HB)));(case aL => have:=LMc7.out;omega);intro v212 w13 ho hb hg hat;rw [← Ny211.out] at ho;have n0_:=mk_ (Kd.R_after (ok:=(fun _ => True)) (qr_ HO210) hg hat);have n1_:=mk_ (hb);have n2_:=mk_ (ho);clear HO210 HB HO207;have HO210:=n0_;have HB:=n1_;have HO213:=n2_;clear n0_ n1_ n2_ ho hb hg hat))
    go_ret2
    exact ⟨_,qe_,by (with_reducible repeat (first|apply ra_|apply rn_|apply rd_));exact rm_ HO213.out (λ_ _=>trivial),u0_ HB⟩
   ·rw [if_neg c7] at H
    exact absurd H (by simp)
  ·rw [if_neg c6] at H
   exact absurd H (by simp)

end Go.Proofs.Ytdpnloibbimblaa.PAll
