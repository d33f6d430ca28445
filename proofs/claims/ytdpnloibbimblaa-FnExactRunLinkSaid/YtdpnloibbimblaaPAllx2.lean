/- Proved here: contracts of functions of the given program, or lemmas on them, for the laws of this seat. Written by xprint.py, a program of this session, on the ground of the kit's print; parts by hand: wip/x/ext. -/
import Derived.Test.YtdpnloibbimblaaPAllx0
import Derived.Test.YtdpnloibbimblaaPAllx1
namespace Go.Proofs.Ytdpnloibbimblaa.PAll
open Go.RowKit Go.Proofs.YtdpnloibbimblaaW.PrintWords Go.Proofs.YtdpnloibbimblaaW.PrintLast Go.Proofs.YtdpnloibbimblaaW.PrintMore
attribute [local go_sem] max2_int min2_int max_two min_two max_three min_three max_four min_four   -- for this text's walks alone
set_option linter.unusedVariables false
set_option linter.unusedSimpArgs false

-- LIB arrivals
/-- What a message does on its wire: when it arrives, and its index. -/
def arrOne (f : List Int) (i : Nat) : List (Int × Int) :=
  if f.getD i 0 = 1 then [] else if f.getD i 0 = 2 then [(2 * (i : Int),(i : Int)),(2 * (i : Int),(i : Int))] else if f.getD i 0 = 3 then [(2 * (i : Int) + 3,(i : Int))] else [(2 * (i : Int),(i : Int))]
def arrAll (f : List Int) : Nat → List (Int × Int)
  | 0 => []
  | n + 1 => arrAll f n ++ arrOne f n
def arrI (f : List Int) (n : Nat) : List Int:=(outA (arrAll f n).length (arrAll f n)).map Prod.snd
theorem arrOne_len (f : List Int) (i : Nat) : (arrOne f i).length ≤ 2:=by
  unfold arrOne
  split
  · simp
  · split
    · simp
    · split <;> simp
theorem arrAll_len (f : List Int) (n : Nat) : (arrAll f n).length ≤ 2 * n:=by
  induction n with
  | zero => simp [arrAll]
  | succ n ih => rw [arrAll,List.length_append];have:=arrOne_len f n;omega
set_option maxHeartbeats 8000000 in
set_option maxRecDepth 100000 in
theorem x_stable (g cap : Nat) (xs : List (Int × Int)) (ok : Nat → Prop) (w0 w : World) (hl : xs.length ≤ 19) (h1 : 1 ≤ xs.length) (hg0 : w0.heap.size ≤ g) (hB : Below w0.heap.size w0 w) (ho : Kd.R kArr 91 w w0.heap.size ok (.slice (some ⟨g, 0, none⟩) xs.length cap) xs) :
    Calls Try.prog 94 #[.slice (some ⟨g,0,none⟩) xs.length cap,.int .i64 xs.length,.func (.func 82) #[] #[]] w fun e w' => e = .returned (.tuple #[]) ∧ Kd.R kArr 91 w' w0.heap.size ok (.slice (some ⟨g,0,none⟩) xs.length cap) (outA xs.length xs) ∧ Below w0.heap.size w0 w':=by
  have hcall:=x_insArr g cap xs ok w0 w (by omega) h1 hg0 hB ho
  obtain ⟨n,hn⟩ : ∃ n,n = xs.length:=⟨_,rfl⟩
  rw [← hn] at hcall hl h1 ⊢
  clear hn hB ho hg0
  have p1 : ((20 : Int) ≤ (n : Int)) = False:=eq_false (by omega)
  have p2 : ((20 : Int) < (n : Int)) = False:=eq_false (by omega)
  go_enter Try.func94,Try.ntmps94
  go_wp2
  go_loopg [7,8] 0 (fun gg s7 s8 wr => wr = w ∧ s7 = .int .i64 0 ∧ s8 = .int .i64 20)
  case atStart => exact ⟨rfl,rfl,rfl⟩
  case round =>
    obtain ⟨rfl,rfl,rfl⟩:=hrel
    go_wp2_with fail
    refine hcall.mono ?_
    rintro e w1 ⟨rfl,ho1,hb1⟩
    have HO1:=Aside0.mk ho1
    have HB1:=Aside0.mk hb1
    clear ho1 hb1 hcall
    go_wp2
    go_loopg [6] 0 (fun gg s6 wr => Aside0 (wr = w1) ∧ s6 = .int .i64 20)
    case atStart => exact ⟨⟨rfl⟩,rfl⟩
    case round =>
      obtain ⟨HW,rfl⟩:=hrel
      have HO2 : Aside0 (Kd.R kArr 91 wr w0.heap.size ok (.slice (some ⟨g,0,none⟩) n cap) (outA n xs)):=⟨by rw [HW.out];exact HO1.out⟩
      have HB2 : Aside0 (Below w0.heap.size w0 wr):=⟨by rw [HW.out];exact HB1.out⟩
      clear HW HO1 HB1
      go_wp2
      first | go_end0 | ((try simp only [Exit.inBlock,Exit.then]);refine bodyPost_ret (results_none rfl _ _ _) rfl ?_)
      exact ⟨rfl,HO2.out,HB2.out⟩
set_option maxHeartbeats 8000000 in
set_option maxRecDepth 100000 in
theorem x_insArr0 (A : Option Addr) (c : Nat) (w : World) :
    Calls Try.prog 99 #[.slice A 0 c,.int .i64 0,.int .i64 0,.func (.func 82) #[] #[]] w fun e w' => e = .returned (.tuple #[]) ∧ w' = w:=by
  go_enter Try.func99,Try.ntmps99
  go_wp2
  go_loopg [8] 0 (fun gg s8 wr => wr = w ∧ s8 = .int .i64 1)
  case atStart => exact ⟨rfl,rfl⟩
  case round =>
    obtain ⟨rfl,rfl⟩:=hrel
    go_wp2
    first | go_end0 | ((try simp only [Exit.inBlock,Exit.then]);refine bodyPost_ret (results_none rfl _ _ _) rfl ?_)
    exact ⟨rfl,rfl⟩
set_option maxHeartbeats 8000000 in
set_option maxRecDepth 100000 in
theorem x_stable0 (A : Option Addr) (c : Nat) (w : World) :
    Calls Try.prog 94 #[.slice A 0 c,.int .i64 0,.func (.func 82) #[] #[]] w fun e w' => e = .returned (.tuple #[]) ∧ w' = w:=by
  go_enter Try.func94,Try.ntmps94
  go_wp2
  go_loopg [7,8] 0 (fun gg s7 s8 wr => wr = w ∧ s7 = .int .i64 0 ∧ s8 = .int .i64 20)
  case atStart => exact ⟨rfl,rfl,rfl⟩
  case round =>
    obtain ⟨rfl,rfl,rfl⟩:=hrel
    go_wp2_with fail
    refine (x_insArr0 A c _).mono ?_
    rintro e w1 ⟨rfl,rfl⟩
    go_wp2
    go_loopg [6] 0 (fun gg s6 wr => wr = w1 ∧ s6 = .int .i64 20)
    case atStart => exact ⟨rfl,rfl⟩
    case round =>
      obtain ⟨rfl,rfl⟩:=hrel
      go_wp2
      first | go_end0 | ((try simp only [Exit.inBlock,Exit.then]);refine bodyPost_ret (results_none rfl _ _ _) rfl ?_)
      exact ⟨rfl,rfl⟩
/-- A short row of arrivals is put into its order. -/
theorem x_sorted (v : Value) (xs : List (Int × Int)) (ok : Nat → Prop) (w0 w : World) (hl : xs.length ≤ 19) (hB : Below w0.heap.size w0 w) (ho : Kd.R kArr 91 w w0.heap.size ok v xs) :
    Calls Try.prog 81 #[v,.func (.func 82) #[] #[]] w fun e w' => e = .returned (.tuple #[]) ∧ Kd.R kArr 91 w' w0.heap.size ok v (outA xs.length xs) ∧ Below w0.heap.size w0 w':=by
  obtain ⟨A,c,rfl⟩:=Kd.R_slice ho
  by_cases h0 : xs.length = 0
  · have hx : xs = []:=List.eq_nil_of_length_eq_zero h0
    subst hx
    have HO:=Aside0.mk ho
    have HB:=Aside0.mk hB
    clear ho hB hl h0
    simp only [List.length_nil] at HO ⊢
    have hcall:=fun W => x_stable0 A c W
    go_enter Try.func81,Try.ntmps81
    go_wp2_with fail
    refine (hcall _).mono ?_
    rintro e w1 ⟨rfl,rfl⟩
    go_wp2
    first | go_end0 | ((try simp only [Exit.inBlock,Exit.then]);refine bodyPost_ret (results_none rfl _ _ _) rfl ?_)
    exact ⟨rfl,HO.out,HB.out⟩
  · obtain ⟨g,cap,hv,hg,hgl,_⟩:=Kd.R_form ho (by omega)
    injection hv with hv1 _ hv3
    subst hv1
    subst hv3
    have hcall:=x_stable g _ xs ok w0 w hl (by omega) hg hB ho
    generalize outA xs.length xs = ys at hcall ⊢
    generalize xs.length = n at hcall ⊢
    clear ho hB hl h0 hgl hg
    go_enter Try.func81,Try.ntmps81
    go_wp2_with fail
    refine hcall.mono ?_
    rintro e w1 ⟨rfl,ho1,hb1⟩
    have HO1:=Aside0.mk ho1
    have HB1:=Aside0.mk hb1
    clear ho1 hb1 hcall
    go_wp2
    first | go_end0 | ((try simp only [Exit.inBlock,Exit.then]);refine bodyPost_ret (results_none rfl _ _ _) rfl ?_)
    exact ⟨rfl,HO1.out,HB1.out⟩

-- LIB arrwalk
set_option maxHeartbeats 8000000 in
set_option maxRecDepth 100000 in
theorem x_arrOf (A0 : Option Addr) (c0 : Nat) (l0 : List Int) (n : Nat) (w : World) (hn : n ≤ 8) (hv : impl_FatesValid.f l0 = some true) (hr0 : Kd.C (Kd.int .i64) w A0 l0.length l0) (hc0 : l0.length ≤ c0) :
    Calls Try.prog 69 #[.slice A0 l0.length c0,.int .i64 n] w fun e w' => ∃ v : Value,e = .returned v ∧ Kd.R (Kd.int .i64) 3 w' w.heap.size (fun _ => True) v (arrI l0 n) ∧ Below w.heap.size w w':=by
  have hu:=Try.underlying91
  have hcs:=impl_canSend.calls A0 c0 l0 n true w hr0 hc0 (by unfold impl_canSend.f;rw [hv];simp only [Option.bind_some,if_pos];unfold impl_within.f;simp;omega)
  have HR:=Aside0.mk hr0
  have HC:=Aside0.mk hc0
  clear hr0 hc0 hv
  go_enter Try.func69,Try.ntmps69
  go_wp2_with fail
  refine hcs.mono ?_
  rintro e w1 ⟨rfl,hb1⟩
  have HB1:=Aside0.mk hb1
  clear hb1 hcs
  go_wp2
  go_loopg [5,13] n (fun gg s5 s13 wr => ∃ (kk : Nat) (v : Value),kk ≤ n ∧ n - kk ≤ gg ∧ v = s5 ∧ s13 = .int .i64 kk ∧ Aside0 (Kd.R kArr 91 wr w.heap.size (fun _ => True) v (arrAll l0 kk)) ∧ Aside0 (Below w.heap.size w wr))
  case atStart => exact ⟨0,_,Nat.zero_le _,by omega,rfl,rfl,⟨Kd.R_nil _ _ _ _ _⟩,HB1⟩
  case round =>
    clear HB1
    obtain ⟨kk,v,hkk,hgg,rfl,rfl,HO,BW⟩:=hrel
    by_cases hlt : kk < n
    · have HX : Aside0 (arrAll l0 (kk + 1) = arrAll l0 kk ++ arrOne l0 kk):=⟨rfl⟩
      have HL:=Aside0.mk (arrAll_len l0 kk)
      generalize arrAll l0 kk = T1 at HO HX HL
      have hf:=fun W (hW : Below w.heap.size w W) => impl_fate.calls A0 c0 l0 kk (l0.getD kk 0) W (Kd.C_below HR.out hW) HC.out (by
        unfold impl_fate.f rd
        by_cases h : (kk : Int) < (l0.length : Int)
        · rw [if_pos h,if_pos (by omega)];simp
        · rw [if_neg h];simp [List.getD_eq_getElem?_getD,List.getElem?_eq_none (show l0.length ≤ kk by omega)])
      have HF:=Aside0.mk hf
      clear hf
      have p1 : ((kk : Int) < (n : Int)) = True:=eq_true (by omega)
      go_wp2_with fail
      have HBa:=below_alloc (Below.refl wr.heap.size wr) (.cells #[.int .i64 (2 * (kk : Int)),.int .i64 (kk : Int)] 91)
      have HNa:=blk_new wr (.cells #[.int .i64 (2 * (kk : Int)),.int .i64 (kk : Int)] 91)
      have hc1:=HF.out _ (below_step BW.out HBa)
      have hz1 : (wr.alloc (.cells #[.int .i64 (2 * (kk : Int)),.int .i64 (kk : Int)] 91)).heap.size = wr.heap.size + 1:=by simp
      refine hc1.mono ?_
      rintro e w2 ⟨rfl,nd,rfl⟩
      have HB2:=pw_below_drewN HBa nd
      have HN2:=blk_below HNa (pw_below_drewN (Below.refl (wr.alloc (.cells #[.int .i64 (2 * (kk : Int)),.int .i64 (kk : Int)] 91)).heap.size _) nd)
      have hz2 : ((wr.alloc (.cells #[.int .i64 (2 * (kk : Int)),.int .i64 (kk : Int)] 91)).drewN nd).heap.size = wr.heap.size + 1:=hz1
      clear hc1 hz1 HF HBa HNa
      generalize (wr.alloc (.cells #[.int .i64 (2 * (kk : Int)),.int .i64 (kk : Int)] 91)).drewN nd = W2 at HB2 HN2 hz2 ⊢
      have HO2:=Aside0.mk (Kd.R_below HO.out HB2)
      have HOS : Aside0 (∀ z,Kd.R kArr 91 (W2.setCell ⟨wr.heap.size,0,none⟩ z) w.heap.size (fun _ => True) v T1):=⟨fun z => Kd.R_below HO.out (HB2.setCell (Nat.le_refl _) z)⟩
      have BWS : Aside0 (∀ z,Below w.heap.size w (W2.setCell ⟨wr.heap.size,0,none⟩ z)):=⟨fun z => below_step BW.out (HB2.setCell (Nat.le_refl _) z)⟩
      have BW2:=Aside0.mk (below_step BW.out HB2)
      have HLT:=Aside0.mk (Kd.R_lt HO.out)
      have hgw : w.heap.size ≤ wr.heap.size:=BW.out.size
      have HGW:=Aside0.mk hgw
      clear HO BW hgw
      generalize wr.heap.size = gb at HB2 HN2 hz2 HLT HGW HOS BWS ⊢
      have k0 : W2.cell? ⟨gb,0,none⟩ = some (.int .i64 (2 * (kk : Int))):=(blk_cell HN2 0).trans rfl
      have k1 : W2.cell? ⟨gb,1,none⟩ = some (.int .i64 (kk : Int)):=(blk_cell HN2 1).trans rfl
      have f0:=blk_frozen HN2 0
      have HN:=Aside0.mk HN2
      have HB:=Aside0.mk HB2
      have HZ2:=Aside0.mk hz2
      clear HB2 HN2 hz2
      by_cases c1 : l0.getD kk 0 = 1
      · have HX1 : Aside0 (arrAll l0 (kk + 1) = T1):=⟨by rw [HX.out];unfold arrOne;rw [if_pos c1,List.append_nil]⟩
        rw [c1]
        rw [← HX1.out] at HO2
        clear c1
        go_wp2_with fail
        go_roundg (n - (kk + 1))
        case measure => omega
        case rel => exact ⟨kk + 1,v,by omega,by omega,rfl,by go_num,HO2,BW2⟩
      · by_cases c2 : l0.getD kk 0 = 2
        · have HX1 : Aside0 (arrAll l0 (kk + 1) = (T1 ++ [(2 * (kk : Int),(kk : Int))]) ++ [(2 * (kk : Int),(kk : Int))]):=⟨by rw [HX.out];unfold arrOne;rw [if_neg c1,if_pos c2];simp⟩
          rw [c2]
          clear c1 c2
          have hl1 : T1.length ≤ 16:=by have:=HL.out;omega
          have HL1 : Aside0 ((T1 ++ [(2 * (kk : Int),(kk : Int))]).length ≤ 17):=⟨by rw [List.length_append];simp;omega⟩
          go_wp2_with (first | ((with_reducible refine gate_builtin (b:=.append) (xs:=#[.tmp 27,.tmp 29]) rfl ?_);at_builtin;refine Kd.R_append kArr (w0:=w) w.heap.size rfl (.tmp 27) (.tmp 29) 89 91 (.agg #[.int .i64 0,.int .i64 0]) 16 rfl Try.underlying89 (by kernel_rfl) rfl (by decide) (by omega) v T1 (2 * (kk : Int),(kk : Int)) [.int .i64 (2 * (kk : Int)),.int .i64 (kk : Int)] (fun _ => True) (fun _ => False) rfl rfl ?aP (fun _ hk => hk.elim) ?aF ?aO ?aB ?aS ?aL ?_;(case aP => exact ⟨_,_,rfl,rfl,rfl⟩);(case aB => exact BW2.out);(case aF => exact (fun _ _ => trivial));(case aO => exact HO2.out);(case aS => exact BW2.out.size);(case aL => omega);intro v3 w3 ho3 hb3 hg3 _;have HO3:=Aside0.mk ho3;have BW3:=Aside0.mk hb3;have HN3:=(hg3.block gb (by have:=HZ2.out;omega) (fun he => by have:=HLT.out gb he.symm;omega)).trans HN.out;have k30 : w3.cell? ⟨gb,0,none⟩ = some (.int .i64 (2 * (kk : Int))):=(blk_cell HN3 0).trans rfl;have k31 : w3.cell? ⟨gb,1,none⟩ = some (.int .i64 (kk : Int)):=(blk_cell HN3 1).trans rfl;clear ho3 hb3 hg3 HN3) | ((with_reducible refine gate_builtin (b:=.append) (xs:=#[.tmp 37,.tmp 39]) rfl ?_);at_builtin;refine Kd.R_append kArr (w0:=w) w.heap.size rfl (.tmp 37) (.tmp 39) 89 91 (.agg #[.int .i64 0,.int .i64 0]) 16 rfl Try.underlying89 (by kernel_rfl) rfl (by decide) (by omega) v3 (T1 ++ [(2 * (kk : Int),(kk : Int))]) (2 * (kk : Int),(kk : Int)) [.int .i64 (2 * (kk : Int)),.int .i64 (kk : Int)] (fun _ => True) (fun _ => False) rfl rfl ?aP (fun _ hk => hk.elim) ?aF ?aO ?aB ?aS ?aL ?_;(case aP => exact ⟨_,_,rfl,rfl,rfl⟩);(case aB => exact BW3.out);(case aF => exact (fun _ _ => trivial));(case aO => exact HO3.out);(case aS => exact BW3.out.size);(case aL => have:=HL1.out;omega);intro v4 w4 ho4 hb4 _ _;have HO4:=Aside0.mk ho4;have BW4:=Aside0.mk hb4;clear ho4 hb4))
          rw [← HX1.out] at HO4
          go_roundg (n - (kk + 1))
          case measure => omega
          case rel => exact ⟨kk + 1,v4,by omega,by omega,rfl,by go_num,HO4,BW4⟩
        · by_cases c3 : l0.getD kk 0 = 3
          · have HX1 : Aside0 (arrAll l0 (kk + 1) = T1 ++ [(2 * (kk : Int) + 3,(kk : Int))]):=⟨by rw [HX.out];unfold arrOne;rw [if_neg c1,if_neg c2,if_pos c3]⟩
            rw [c3]
            clear c1 c2 c3
            have hl1 : T1.length ≤ 16:=by have:=HL.out;omega
            have HO5:=Aside0.mk (HOS.out (.int .i64 (2 * (kk : Int) + 3)))
            have BW5:=Aside0.mk (BWS.out (.int .i64 (2 * (kk : Int) + 3)))
            have HSZ : Aside0 ((W2.setCell ⟨gb,0,none⟩ (.int .i64 (2 * (kk : Int) + 3))).heap.size = W2.heap.size):=⟨by simp [World.setCell]⟩
            clear HOS BWS
            go_wp2_with (first | ((with_reducible refine gate_builtin (b:=.append) (xs:=#[.tmp 37,.tmp 39]) rfl ?_);at_builtin;refine Kd.R_append kArr (w0:=w) w.heap.size rfl (.tmp 37) (.tmp 39) 89 91 (.agg #[.int .i64 0,.int .i64 0]) 16 rfl Try.underlying89 (by kernel_rfl) rfl (by decide) (by omega) v T1 (2 * (kk : Int) + 3,(kk : Int)) [.int .i64 (2 * (kk : Int) + 3),.int .i64 (kk : Int)] (fun _ => True) (fun _ => False) rfl (by rw [HSZ.out];rfl) ?aP (fun _ hk => hk.elim) ?aF ?aO ?aB ?aS ?aL ?_;(case aP => exact ⟨_,_,rfl,rfl,rfl⟩);(case aB => exact BW5.out);(case aF => exact (fun _ _ => trivial));(case aO => exact HO5.out);(case aS => exact BW5.out.size);(case aL => omega);intro v4 w4 ho4 hb4 _ _;have HO4:=Aside0.mk ho4;have BW4:=Aside0.mk hb4;clear ho4 hb4))
            rw [← HX1.out] at HO4
            go_roundg (n - (kk + 1))
            case measure => omega
            case rel => exact ⟨kk + 1,v4,by omega,by omega,rfl,by go_num,HO4,BW4⟩
          · have HX1 : Aside0 (arrAll l0 (kk + 1) = T1 ++ [(2 * (kk : Int),(kk : Int))]):=⟨by rw [HX.out];unfold arrOne;rw [if_neg c1,if_neg c2,if_neg c3]⟩
            generalize l0.getD kk 0 = ff at c1 c2 c3 ⊢
            have e1 : (ff == 1) = false:=beq_eq_false_iff_ne.mpr c1
            have e2 : (ff == 2) = false:=beq_eq_false_iff_ne.mpr c2
            have e3 : (ff == 3) = false:=beq_eq_false_iff_ne.mpr c3
            clear c1 c2 c3
            have hl1 : T1.length ≤ 16:=by have:=HL.out;omega
            go_wp2_with (first | ((with_reducible refine gate_builtin (b:=.append) (xs:=#[.tmp 37,.tmp 39]) rfl ?_);at_builtin;refine Kd.R_append kArr (w0:=w) w.heap.size rfl (.tmp 37) (.tmp 39) 89 91 (.agg #[.int .i64 0,.int .i64 0]) 16 rfl Try.underlying89 (by kernel_rfl) rfl (by decide) (by omega) v T1 (2 * (kk : Int),(kk : Int)) [.int .i64 (2 * (kk : Int)),.int .i64 (kk : Int)] (fun _ => True) (fun _ => False) rfl rfl ?aP (fun _ hk => hk.elim) ?aF ?aO ?aB ?aS ?aL ?_;(case aP => exact ⟨_,_,rfl,rfl,rfl⟩);(case aB => exact BW2.out);(case aF => exact (fun _ _ => trivial));(case aO => exact HO2.out);(case aS => exact BW2.out.size);(case aL => omega);intro v4 w4 ho4 hb4 _ _;have HO4:=Aside0.mk ho4;have BW4:=Aside0.mk hb4;clear ho4 hb4))
            rw [← HX1.out] at HO4
            go_roundg (n - (kk + 1))
            case measure => omega
            case rel => exact ⟨kk + 1,v4,by omega,by omega,rfl,by go_num,HO4,BW4⟩
    · have e : kk = n:=by omega
      subst e
      have HL:=Aside0.mk (arrAll_len l0 kk)
      have HI : Aside0 (arrI l0 kk = (outA (arrAll l0 kk).length (arrAll l0 kk)).map Prod.snd):=⟨rfl⟩
      have HL2:=Aside0.mk (outA_len (arrAll l0 kk).length (arrAll l0 kk))
      have hs:=x_sorted v (arrAll l0 kk) (fun _ => True) w wr (by have:=HL.out;omega) BW.out HO.out
      generalize outA (arrAll l0 kk).length (arrAll l0 kk) = ys at hs HI HL2
      clear HO BW
      go_wp2_with fail
      refine hs.mono ?_
      rintro e w2 ⟨rfl,ho2,hb2⟩
      have hm:=fun A c (e : v = .slice A ys.length c) => x_maparr A c ys w2 (by have:=HL.out;have:=HL2.out;omega) (by subst e;exact (Kd.R_reads' ho2).2.2)
      obtain ⟨A,c,rfl⟩:=Kd.R_slice ho2
      have hm2:=hm A c rfl
      have HB2:=Aside0.mk hb2
      clear hm hs hb2 ho2
      go_wp2_with fail
      refine hm2.mono ?_
      rintro e w3 ⟨v3,rfl,ho3,hb3⟩
      have HO3:=Aside0.mk (Kd.R_lower ho3 HB2.out.size)
      have HB3:=Aside0.mk (below_step HB2.out hb3)
      rw [← HI.out] at HO3
      clear hm2 ho3 hb3
      go_wp2
      go_ret
      exact ⟨v3,rfl,HO3.out,HB3.out⟩

/-! ### bytes_Clone: function 56 (by hand) -/
def bytes_Clone.f (l0 : List Int) : Option (List Int) :=
 if l0.length < 140737488355328 then some l0 else none
set_option maxHeartbeats 4000000 in
set_option maxRecDepth 100000 in
theorem bytes_Clone.calls (A0 : Option Addr) (c0 : Nat) (l0 : List Int) (r : List Int) (w : World) (hr0 : Kd.C (Kd.int .u8) w A0 l0.length l0) (hc0 : l0.length ≤ c0) (h : bytes_Clone.f l0 = some r) :
  Calls Try.prog 56 #[.slice A0 l0.length c0] w fun e w' => ∃ v0_ : Value,e = .returned (v0_) ∧ Kd.R (Kd.int .u8) 5 w' w.heap.size (fun _ => True) v0_ r ∧ Below w.heap.size w w':=by
 unfold bytes_Clone.f at h
 by_cases hl : l0.length < 140737488355328
 ·rw [if_pos hl] at h
  obtain rfl:=Option.some.inj h
  clear h
  cases A0 with
  | none =>
   cases l0 with
   | cons x t =>
    obtain ⟨ad,e,_⟩:=Kd.at_int hr0 (0 : Int) (by omega) (by simp)
    cases e
   | nil =>
    have heq : ∀ w,(binOp .eql 22 (.slice none 0 c0) (.slice none 0 0)).run Try.prog w = .ok (.bool true) w:=fun w => Lib.run_eql_slice_nil (P:=Try.prog) w 22 5 none 0 c0 0 0 Try.underlying22
    clear hr0 hc0 hl
    simp only [List.length_nil]
    go_enter Try.func56,Try.ntmps56
    go_wp2
    go_ret
    exact ⟨_,rfl,Kd.R_nil _ _ _ _ _,Below.refl _ w⟩
  | some ad =>
   have heq : ∀ w,(binOp .eql 22 (.slice (some ad) l0.length c0) (.slice none 0 0)).run Try.prog w = .ok (.bool false) w:=fun w => Lib.run_eql_slice_nil (P:=Try.prog) w 22 5 (some ad) l0.length c0 0 0 Try.underlying22
   have HR:=mk_ hr0
   have HL:=mk_ hl
   clear hr0 hl
   go_enter Try.func56,Try.ntmps56
   go_wp2_with (first|((with_reducible refine gate_dst (N:=5) rfl ?_);refine Kd.R_lit (w0:=w) (Kd.int .u8) _ 5 ?hg (N:=5) ?hd (xs:=([] : List Int)) (inner:=[]) (ok:=fun _ => True) (okp:=fun _ => True) ?hr ?hp (fun _ hk => hk) trivial (Below.refl _ _) (Nat.le_refl _) (by simp) ?_;(case hd => rfl);(case hg => rfl);(case hr => first|(go_simp;done)|(go_simp;rfl));(case hp => exact (Reps.none _ _));intro v1 w1 ho hb _ _;have HO:=mk_ ho;have HB:=mk_ hb;clear ho hb)|((with_reducible refine gate_dst (N:=7) rfl ?_);refine Kd.R_append_rows (Kd.int .u8) (w0:=w) w.heap.size rfl (.tmp 5) (.tmp 6) 22 5 (.int .u8 0) 1 rfl Try.underlying22 (by kernel_rfl) rfl (by decide) (by omega) v1 [] l0 _ _ _ (fun _ => True) (fun _ => False) rfl rfl HO.out (cb_ HR.out HB.out) (fun _ _ h => h) (fun _ h => h.elim) (fun _ _ => trivial) HB.out HB.out.size (by have:=HL.out;simp only [List.length_nil];omega) ?_;intro v2 w2 ho hb _ _;rw [List.nil_append] at ho;have HO2:=mk_ ho;have HB2:=mk_ hb;clear ho hb))
   go_ret
   exact ⟨_,rfl,HO2.out,HB2.out⟩
 ·rw [if_neg hl] at h
  cases h

-- LIB mapb
set_option maxHeartbeats 8000000 in
set_option maxRecDepth 100000 in
theorem x_mapb (F : Int → List Int) (g : Nat) (lb : Array Value) (eg : ∀ args w, (callFunc g args).run Try.prog w = .ok (.enter g args) w) (A0 : Option Addr) (c0 : Nat) (l0 : List Int) (w : World) (hl : l0.length ≤ 1000) (hr0 : Kd.C (Kd.int .i64) w A0 l0.length l0)
    (hp : ∀ (W : World) (x : Int),x ∈ l0 → Below w.heap.size w W → Calls Try.prog g (#[.int .i64 x] ++ lb) W fun e w' => ∃ v : Value,e = .returned v ∧ Kd.R (Kd.int .u8) 5 w' W.heap.size (fun _ => True) v (F x) ∧ Below W.heap.size W w') :
    Calls Try.prog 68 #[.slice A0 l0.length c0,.func (.func g) #[] lb] w fun e w' => ∃ v : Value,e = .returned v ∧ Kd.S (Kd.slice 5 (Kd.int .u8)) 22 w' w.heap.size (fun _ => True) v (l0.map F) ∧ Below w.heap.size w w':=by
  have HR:=Aside0.mk hr0
  have HP:=Aside0.mk hp
  clear hr0 hp
  go_enter Try.func68,Try.ntmps68
  go_wp2
  go_loopg [5,10] l0.length (fun gg s5 s10 wr => ∃ (kk : Nat) (v : Value),kk ≤ l0.length ∧ l0.length - kk ≤ gg ∧ v = s5 ∧ s10 = .int .i64 kk ∧
    Aside0 (Kd.S (Kd.slice 5 (Kd.int .u8)) 22 wr w.heap.size (fun _ => True) v ((l0.take kk).map F)) ∧ Aside0 (Below w.heap.size w wr))
  case atStart => exact ⟨0,_,Nat.zero_le _,by omega,rfl,rfl,⟨Kd.S_nil _ _ _ _ _⟩,⟨Below.refl _ w⟩⟩
  case round =>
    obtain ⟨kk,v,hkk,hgg,rfl,rfl,HO,BW⟩:=hrel
    by_cases hlt : kk < l0.length
    · obtain ⟨ad,e,hx0⟩:=Kd.at_int (Kd.C_below HR.out BW.out) (kk : Int) (by omega) (by omega)
      cases e
      have hget : rd l0 (kk : Int) = l0[kk]:=by simp [rd,List.getD_eq_getElem?_getD,hlt]
      rw [hget,Int.toNat_natCast] at hx0
      have HX : Aside0 ((l0.take (kk + 1)).map F = (l0.take kk).map F ++ [F l0[kk]]):=⟨by rw [List.take_succ_eq_append_getElem hlt,List.map_append];rfl⟩
      have HLN : Aside0 (((l0.take kk).map F).length = kk):=⟨by rw [List.length_map,List.length_take];omega⟩
      have hcall:=HP.out wr l0[kk] (List.getElem_mem hlt) BW.out
      generalize l0[kk] = x at hx0 hcall HX
      generalize (l0.take kk).map F = T1 at HO HX HLN
      generalize F x = b at hcall HX
      have hl1 : T1.length + 1 ≤ 1001:=by have:=HLN.out;omega
      clear hget
      go_wp2_with (first | (go_at_fn g;refine hcall.mono ?_;rintro e w1 ⟨v1,rfl,ho1,hb1⟩;obtain ⟨A1,c1,rfl⟩:=Kd.R_slice ho1;have HO1:=Aside0.mk (Kd.R_lower ho1 BW.out.size);have HE:=Aside0.mk (Kd.S_mono (ok':=fun k => some k ≠ (Value.slice A1 b.length c1).ownBlock) (Kd.S_elder' HO.out (Kd.R_base ho1) hb1) (fun k hk => hk.2));have BW1:=Aside0.mk (below_step BW.out hb1);have HT:=Aside0.mk (Kd.R_lt ho1);clear ho1 hb1) | ((with_reducible refine gate_builtin (b:=.append) (xs:=#[.tmp 14,.tmp 18]) rfl ?_);at_builtin;refine Kd.S_append (Kd.slice 5 (Kd.int .u8)) (w0:=w) w.heap.size rfl (.tmp 14) (.tmp 18) 23 22 (.slice none 0 0) 24 rfl Try.underlying23 (by kernel_rfl) rfl (by decide) (by omega) v T1 b [.slice A1 b.length c1] (fun _ => True) (fun k_ => some k_ = (Value.slice A1 b.length c1).ownBlock) rfl rfl ?aP ?aK ?aF ?aO ?aB ?aS ?aL ?_;(case aP => exact Kd.M_row (Kd.R_tight rfl HO1.out));(case aK => exact fun k hk => ⟨trivial,fun he => by have h1:=(Kd.R_apart' HO1.out (Kd.S_typed HE.out) (by decide)).1 k hk.symm;exact h1.2 he⟩);(case aF => exact (fun _ _ => trivial));(case aO => exact Kd.S_mono HE.out (fun k hk => ⟨trivial,fun e_ => hk e_⟩));(case aB => exact BW1.out);(case aS => exact BW1.out.size);(case aL => omega);intro v2 w2 ho2 hb2 _ _;have HO2:=Aside0.mk ho2;have BW2:=Aside0.mk hb2;clear ho2 hb2))
      rw [← HX.out] at HO2
      go_roundg (l0.length - (kk + 1))
      case measure => omega
      case rel => exact ⟨kk + 1,v2,by omega,by omega,rfl,by go_num,HO2,BW2⟩
    · have e : kk = l0.length:=by omega
      subst e
      rw [List.take_length] at HO
      go_wp2
      go_ret
      exact ⟨v,rfl,HO.out,BW.out⟩

-- LIB passwire
/-- The row with the highest bit of its first one turned. -/
def flip0 (b : List Int) : List Int:=b.set 0 (Go.bits .xor .u8 (rd b 0) 128)
/-- What arrives of the message x. -/
def passB (f : List Int) (l : List (List Int)) (x : Int) : List Int:=if f.getD x.toNat 0 = 4 ∧ 0 < (rd_L4 l x).length then flip0 (rd_L4 l x) else rd_L4 l x
def passL (f : List Int) (l : List (List Int)) : List (List Int):=(arrI f l.length).map (passB f l)
set_option maxHeartbeats 4000000 in
set_option maxRecDepth 100000 in
theorem x_isDataP (w : World) : PredN Try.prog 67 #[] (fun n => decide (n ≤ 600)) w:=by
  intro W A n c hB
  have HZ : Aside0 (decide ((n : Int) ≤ 600) = decide (n ≤ 600)):=⟨by by_cases h : n ≤ 600 <;> simp [h] <;> omega⟩
  clear hB
  go_enter Try.func67,Try.ntmps67
  go_wp2_with fail
  go_ret
  exact ⟨by rw [← HZ.out];rfl,Below.refl _ _⟩
set_option maxHeartbeats 8000000 in
set_option maxRecDepth 100000 in
theorem x_pw1 (gl gf : Nat) (A0 : Option Addr) (c0 : Nat) (l0 : List Int) (A1 : Option Addr) (c1 : Nat) (l1 : List (List Int)) (x : Int) (w : World) (hx0 : 0 ≤ x) (hx1 : x < l1.length) (hlb : ∀ b ∈ l1, b.length ≤ 600)
    (hkl : w.cell? ⟨gl,0,none⟩ = some (.slice A1 l1.length c1)) (hkf : w.cell? ⟨gf,0,none⟩ = some (.slice A0 l0.length c0)) (hgf : gf < w.heap.size)
    (hr0 : Kd.C (Kd.int .i64) w A0 l0.length l0) (hc0 : l0.length ≤ c0) (hr1 : Kd.C (Kd.slice 5 (Kd.int .u8)) w A1 l1.length l1) :
    Calls Try.prog 70 (#[.int .i64 x] ++ #[.pointer (some ⟨gl,0,none⟩),.pointer (some ⟨gf,0,none⟩)]) w fun e w' => ∃ v : Value,e = .returned v ∧ Kd.R (Kd.int .u8) 5 w' w.heap.size (fun _ => True) v (passB l0 l1 x) ∧ Below w.heap.size w w':=by
  obtain ⟨ad,A',c',e,hx,hlc,hC⟩:=at_L4 hr1 x hx0 hx1
  cases e
  have hbl : (rd_L4 l1 x).length ≤ 600:=by
    have e : rd_L4 l1 x = l1[x.toNat]'(by omega):=by simp [rd_L4,List.getD_eq_getElem?_getD,show x.toNat < l1.length by omega]
    rw [e];exact hlb _ (List.getElem_mem _)
  have hcl:=bytes_Clone.calls A' c' (rd_L4 l1 x) (rd_L4 l1 x) w hC hlc (by unfold bytes_Clone.f;rw [if_pos (by omega)])
  have HP : Aside0 (passB l0 l1 x = if l0.getD x.toNat 0 = 4 ∧ 0 < (rd_L4 l1 x).length then flip0 (rd_L4 l1 x) else rd_L4 l1 x):=⟨rfl⟩
  have hf:=fun W (hW : Below w.heap.size w W) => impl_fate.calls A0 c0 l0 x (l0.getD x.toNat 0) W (Kd.C_below hr0 hW) hc0 (by
    unfold impl_fate.f rd
    by_cases h : x < (l0.length : Int)
    · rw [if_pos h,if_pos hx0];try rfl
    · rw [if_neg h];simp [List.getD_eq_getElem?_getD,List.getElem?_eq_none (show l0.length ≤ x.toNat by omega)])
  have HF:=Aside0.mk hf
  have HKF:=Aside0.mk hkf
  generalize passB l0 l1 x = pb at HP
  generalize rd_L4 l1 x = b at hx hcl HP hbl hlc hC
  have p1:=eq_true hx0
  have p2:=eq_true hx1
  clear hr0 hr1 hlb hf hx0 hx1 hlc hC hkf
  go_enter Try.func70,Try.ntmps70
  go_wp2_with fail
  refine hcl.mono ?_
  rintro e w1 ⟨v1,rfl,ho1,hb1⟩
  have k2:=(hb1.cell (p:=⟨gf,0,none⟩) hgf).trans HKF.out
  have hf1:=HF.out _ hb1
  have HO1:=Aside0.mk ho1
  have HB1:=Aside0.mk hb1
  clear ho1 hb1 hcl HF hkl hx HKF
  by_cases c4 : l0.getD x.toNat 0 = 4
  · by_cases c5 : 0 < b.length
    · have HZ : Aside0 (pb = flip0 b):=⟨by rw [HP.out,if_pos ⟨c4,c5⟩]⟩
      rw [c4] at hf1
      obtain ⟨g,cap,rfl,hg0,hgl,_⟩:=Kd.R_form HO1.out c5
      have p3 : ((0 : Int) < (b.length : Int)) = True:=eq_true (by omega)
      have p4:=eq_true c5
      clear c4 c5 HP
      go_wp2_with fail
      refine hf1.mono ?_
      rintro e w2 ⟨rfl,nd,rfl⟩
      have HO2:=Aside0.mk (Kd.R_drewN HO1.out nd)
      have HB2:=Aside0.mk (pw_below_drewN HB1.out nd)
      generalize w1.drewN nd = w2 at HO2 HB2 ⊢
      clear hf1 k2 HO1 HB1
      have hxf:=Kd.R_celln 0 HO2.out (0 : Int) (by omega) (by have:=of_eq_true p4;omega)
      have hx2 : w2.cell? ⟨g,0,none⟩ = some (.int .u8 (rd b 0)):=hxf.1
      have hf2 : w2.frozen? ⟨g,0,none⟩ = false:=hxf.2
      clear hxf
      have HP2:=Aside0.mk (Kd.R_putn HO2.out (0 : Int) (Go.bits .xor .u8 (rd b 0) 128))
      go_wp2
      go_ret
      exact ⟨_,rfl,by rw [HZ.out];exact HP2.out,HB2.out.setCell hg0 _⟩
    · have HZ : Aside0 (pb = b):=⟨by rw [HP.out,if_neg (fun h => c5 h.2)]⟩
      have e0 : b = []:=List.eq_nil_of_length_eq_zero (by omega)
      subst e0
      rw [c4] at hf1
      obtain ⟨A2,c2,rfl⟩:=Kd.R_slice HO1.out
      clear c4 c5 HP
      go_wp2_with fail
      refine hf1.mono ?_
      rintro e w2 ⟨rfl,nd,rfl⟩
      go_wp2
      go_ret
      exact ⟨_,rfl,by rw [HZ.out];exact Kd.R_drewN HO1.out nd,pw_below_drewN HB1.out nd⟩
  · have HZ : Aside0 (pb = b):=⟨by rw [HP.out,if_neg (fun h => c4 h.1)]⟩
    generalize l0.getD x.toNat 0 = ff at c4 hf1
    have e4 : (ff == 4) = false:=beq_eq_false_iff_ne.mpr c4
    clear c4 HP
    go_wp2_with fail
    refine hf1.mono ?_
    rintro e w2 ⟨rfl,nd,rfl⟩
    go_wp2
    go_ret
    exact ⟨_,rfl,by rw [HZ.out];exact Kd.R_drewN HO1.out nd,pw_below_drewN HB1.out nd⟩

-- LIB arrpure
theorem cmpI_lt (x y : Int) : (cmpI x y < 0) ↔ x < y:=by
  unfold cmpI
  split
  · simp;assumption
  · split
    · constructor <;> intro h <;> omega
    · constructor <;> intro h <;> omega
theorem cmpI_eq (x y : Int) : (cmpI x y = 0) ↔ x = y:=by
  unfold cmpI
  split
  · constructor <;> intro h <;> omega
  · split
    · constructor <;> intro h <;> omega
    · constructor <;> intro h <;> omega
def leA (x y : Int × Int) : Prop:=x.1 < y.1 ∨ (x.1 = y.1 ∧ x.2 ≤ y.2)
theorem lessA_iff (x y : Int × Int) : lessA x y = true ↔ ¬ leA y x:=by
  unfold lessA leA cmpA
  rw [decide_eq_true_iff]
  by_cases c : cmpI x.1 y.1 = 0
  · rw [if_pos c,cmpI_lt]
    rw [cmpI_eq] at c
    omega
  · rw [if_neg c,cmpI_lt]
    rw [cmpI_eq] at c
    omega
theorem leA_anti {x y : Int × Int} (h1 : leA x y) (h2 : leA y x) : x = y:=by
  unfold leA at h1 h2
  exact Prod.ext (by omega) (by omega)
theorem leA_trans {x y z : Int × Int} (h1 : leA x y) (h2 : leA y z) : leA x z:=by
  unfold leA at *
  omega
theorem leA_total {x y : Int × Int} (h : ¬ leA x y) : leA y x:=by
  unfold leA at *
  omega
def gA (x : List (Int × Int)) (p : Nat) : Int × Int:=x.getD p (0,0)
theorem gA_get (x : List (Int × Int)) (p : Nat) (h : p < x.length) : gA x p = x[p]:=by simp [gA,List.getD_eq_getElem?_getD,h]
theorem gA_set (x : List (Int × Int)) (a p : Nat) (v : Int × Int) (h : a < x.length) : gA (x.set a v) p = if p = a then v else gA x p:=by
  unfold gA
  rw [List.getD_eq_getElem?_getD,List.getD_eq_getElem?_getD,List.getElem?_set]
  by_cases e : a = p
  · subst e;rw [if_pos rfl,if_pos h,if_pos rfl];rfl
  · rw [if_neg e,if_neg (fun h => e h.symm)]
def UpToA (x : List (Int × Int)) (i : Nat) : Prop:=∀ p q,p < q → q < i → leA (gA x p) (gA x q)
def UpButA (x : List (Int × Int)) (i j : Nat) : Prop:=(∀ p q,p < q → q ≤ i → p ≠ j → q ≠ j → leA (gA x p) (gA x q)) ∧ ∀ q,j < q → q ≤ i → leA (gA x j) (gA x q)
theorem inA_up (i : Nat) (j : Nat) : ∀ x : List (Int × Int),i < x.length → j ≤ i → UpButA x i j → UpToA (inA j x) (i + 1) ∧ (inA j x).Perm x:=by
  have exit : ∀ (x : List (Int × Int)) (j : Nat),j ≤ i → UpButA x i j → (j = 0 ∨ leA (gA x (j - 1)) (gA x j)) → UpToA x (i + 1):=by
    intro x j hj hU hc p q hpq hq
    by_cases e1 : p = j
    · subst e1;exact hU.2 q hpq (by omega)
    · by_cases e2 : q = j
      · subst e2
        rcases hc with hc | hc
        · omega
        · by_cases e3 : p = q - 1
          · subst e3;exact hc
          · exact leA_trans (hU.1 p (q - 1) (by omega) (by omega) e1 (by omega)) hc
      · exact hU.1 p q hpq (by omega) e1 e2
  induction j with
  | zero =>
    intro x hx hj hU
    exact ⟨exit x 0 hj hU (Or.inl rfl),List.Perm.refl x⟩
  | succ j ih =>
    intro x hx hj hU
    rw [inA]
    by_cases c : lessA (x.getD (j + 1) (0,0)) (x.getD j (0,0)) = true
    · rw [if_pos c]
      have hl1 : j + 1 < x.length:=by omega
      have hl0 : j < x.length:=by omega
      have c' : ¬ leA (gA x j) (gA x (j + 1)):=(lessA_iff _ _).1 c
      have e : ∀ p,gA (swA x j) p = if p = j then gA x (j + 1) else if p = j + 1 then gA x j else gA x p:=by
        intro p
        unfold swA
        rw [gA_set _ _ _ _ (by rw [List.length_set];exact hl0),gA_set _ _ _ _ hl1]
        rfl
      have hp : (swA x j).Perm x:=by
        unfold swA
        rw [show x.getD j (0,0) = x[j] from gA_get x j hl0,show x.getD (j + 1) (0,0) = x[j + 1] from gA_get x (j + 1) hl1]
        exact List.set_set_perm hl1 hl0
      have hU' : UpButA (swA x j) i j:=by
        constructor
        · intro p q h1 h2 h3 h4
          rw [e,e,if_neg h3,if_neg h4]
          by_cases f1 : p = j + 1
          · rw [if_pos f1,if_neg (by omega)]
            exact hU.1 j q (by omega) h2 (by omega) (by omega)
          · rw [if_neg f1]
            by_cases f2 : q = j + 1
            · rw [if_pos f2];exact hU.1 p j (by omega) (by omega) f1 (by omega)
            · rw [if_neg f2];exact hU.1 p q h1 h2 f1 f2
        · intro q h1 h2
          rw [e,e,if_pos rfl,if_neg (by omega)]
          by_cases f2 : q = j + 1
          · rw [if_pos f2];exact leA_total c'
          · rw [if_neg f2];exact hU.2 q (by omega) h2
      obtain ⟨h1,h2⟩:=ih _ (by rw [swA_len];exact hx) (by omega) hU'
      exact ⟨h1,h2.trans hp⟩
    · rw [if_neg c]
      have c' : leA (gA x j) (gA x (j + 1)):=Classical.not_not.1 (fun h => c ((lessA_iff _ _).2 h))
      exact ⟨exit x (j + 1) hj hU (Or.inr (by rw [Nat.add_sub_cancel];exact c')),List.Perm.refl x⟩
theorem outA_up (x : List (Int × Int)) (i : Nat) : i ≤ x.length → UpToA (outA i x) i ∧ (outA i x).Perm x:=by
  induction i with
  | zero => intro _;exact ⟨fun p q _ hq => by omega,List.Perm.refl x⟩
  | succ i ih =>
    intro h
    obtain ⟨h1,h2⟩:=ih (by omega)
    obtain ⟨h3,h4⟩:=inA_up i i (outA i x) (by rw [outA_len];omega) (Nat.le_refl i) ⟨fun p q a b c d => h1 p q a (by omega),fun q a b => by omega⟩
    exact ⟨h3,h4.trans h2⟩
theorem outA_perm (x : List (Int × Int)) : (outA x.length x).Perm x:=(outA_up x x.length (Nat.le_refl _)).2
theorem outA_sorted (x : List (Int × Int)) : (outA x.length x).Pairwise leA:=by
  have h:=(outA_up x x.length (Nat.le_refl _)).1
  rw [List.pairwise_iff_getElem]
  intro i j hi hj hij
  have:=h i j hij (by rw [outA_len] at hj;exact hj)
  rwa [gA_get _ i hi,gA_get _ j hj] at this
theorem arrAll_in (f : List Int) (n : Nat) : ∀ x ∈ arrAll f n,0 ≤ x.2 ∧ x.2 < n:=by
  induction n with
  | zero => intro x hx;simp [arrAll] at hx
  | succ n ih =>
    intro x hx
    rw [arrAll,List.mem_append] at hx
    rcases hx with hx | hx
    · have:=ih x hx;omega
    · have e : x.2 = (n : Int) := by
        unfold arrOne at hx
        split at hx
        · simp at hx
        · split at hx
          · simp at hx;rw [hx]
          · split at hx
            · simp at hx;rw [hx]
            · simp at hx;rw [hx]
      omega
theorem arrI_in (f : List Int) (n : Nat) : ∀ x ∈ arrI f n,0 ≤ x ∧ x < n:=by
  intro x hx
  unfold arrI at hx
  obtain ⟨p,hp,rfl⟩:=List.mem_map.1 hx
  exact arrAll_in f n p ((outA_perm _).mem_iff.1 hp)
/-- When a message arrives, or -1. -/
def atI (f : List Int) (i : Nat) : Int:=if f.getD i 0 = 1 then -1 else if f.getD i 0 = 3 then 2 * (i : Int) + 3 else 2 * (i : Int)
def hitP (f : List Int) (t i : Nat) : List (Int × Int):=if atI f i = (t : Int) then (if f.getD i 0 = 2 then [((t : Int),(i : Int)),((t : Int),(i : Int))] else [((t : Int),(i : Int))]) else []
def hitI (f : List Int) (t i : Nat) : List Int:=if atI f i = (t : Int) then (if f.getD i 0 = 2 then [(i : Int),(i : Int)] else [(i : Int)]) else []
def scanP (f : List Int) (T n : Nat) : List (Int × Int):=(List.range T).flatMap fun t => (List.range n).flatMap fun i => hitP f t i
def scanI (f : List Int) (T n : Nat) : List Int:=(List.range T).flatMap fun t => (List.range n).flatMap fun i => hitI f t i
theorem hit_map (f : List Int) (t i : Nat) : (hitP f t i).map Prod.snd = hitI f t i:=by
  unfold hitP hitI
  split
  · split <;> rfl
  · rfl
theorem scan_map (f : List Int) (T n : Nat) : (scanP f T n).map Prod.snd = scanI f T n:=by
  unfold scanP scanI
  rw [List.map_flatMap]
  congr 1
  funext t
  rw [List.map_flatMap]
  congr 1
  funext i
  exact hit_map f t i
theorem hitP_in {f : List Int} {t i : Nat} {x : Int × Int} (h : x ∈ hitP f t i) : x = ((t : Int),(i : Int)):=by
  unfold hitP at h
  split at h
  · split at h <;> simpa using h
  · simp at h
theorem scan_sorted (f : List Int) (T n : Nat) : (scanP f T n).Pairwise leA:=by
  unfold scanP
  rw [List.pairwise_flatMap]
  refine ⟨fun t _ => ?_,?_⟩
  · rw [List.pairwise_flatMap]
    refine ⟨fun i _ => ?_,?_⟩
    · rw [List.pairwise_iff_getElem]
      intro a b ha hb hab
      rw [hitP_in (List.getElem_mem ha),hitP_in (List.getElem_mem hb)]
      exact Or.inr ⟨rfl,Int.le_refl _⟩
    · refine List.pairwise_lt_range.imp ?_
      intro a b hab x hx y hy
      rw [hitP_in hx,hitP_in hy]
      exact Or.inr ⟨rfl,by show (a : Int) ≤ (b : Int);omega⟩
  · refine List.pairwise_lt_range.imp ?_
    intro a b hab x hx y hy
    obtain ⟨i,_,hx⟩:=List.mem_flatMap.1 hx
    obtain ⟨j,_,hy⟩:=List.mem_flatMap.1 hy
    rw [hitP_in hx,hitP_in hy]
    exact Or.inl (by show (a : Int) < (b : Int);omega)
theorem flatMap_two {α β : Type} (A B : α → List β) (l : List α) : (l.flatMap fun t => A t ++ B t).Perm (l.flatMap A ++ l.flatMap B):=by
  induction l with
  | nil => exact List.Perm.refl _
  | cons a l ih =>
    simp only [List.flatMap_cons]
    have h1 : ((A a ++ B a) ++ l.flatMap fun t => A t ++ B t).Perm ((A a ++ B a) ++ (l.flatMap A ++ l.flatMap B)):=ih.append_left _
    refine h1.trans ?_
    rw [List.append_assoc,List.append_assoc]
    refine List.Perm.append_left _ ?_
    rw [← List.append_assoc,← List.append_assoc]
    exact List.perm_append_comm.append_right _
theorem one_hit {β : Type} (a : Int) (g : List β) (T : Nat) : ((List.range T).flatMap fun t : Nat => if a = (t : Int) then g else []) = if 0 ≤ a ∧ a < T then g else []:=by
  induction T with
  | zero => rw [if_neg (by omega)];rfl
  | succ T ih =>
    rw [List.range_succ,List.flatMap_append,ih]
    simp only [List.flatMap_cons,List.flatMap_nil,List.append_nil]
    by_cases h : a = (T : Int)
    · rw [if_pos h,if_neg (by omega),if_pos (by omega)];rfl
    · rw [if_neg h,List.append_nil]
      by_cases h2 : 0 ≤ a ∧ a < T
      · rw [if_pos h2,if_pos (by omega)]
      · rw [if_neg h2,if_neg (by omega)]
theorem hit_one (f : List Int) (T i : Nat) (hT : 2 * i + 3 < T) : ((List.range T).flatMap fun t => hitP f t i) = arrOne f i:=by
  have e : (fun t => hitP f t i) = fun t : Nat => if atI f i = (t : Int) then (if f.getD i 0 = 2 then [(atI f i,(i : Int)),(atI f i,(i : Int))] else [(atI f i,(i : Int))]) else []:=by
    funext t
    unfold hitP
    split
    · rename_i h;rw [h]
    · rfl
  rw [e,one_hit]
  unfold arrOne atI
  by_cases c1 : f.getD i 0 = 1
  · rw [if_pos c1,if_pos c1,if_neg (by omega)]
  · rw [if_neg c1,if_neg c1]
    by_cases c2 : f.getD i 0 = 2
    · have c3 : ¬ f.getD i 0 = 3:=by rw [c2];decide
      simp only [if_pos c2,if_neg c3]
      rw [if_pos (by omega)]
    · rw [if_neg c2,if_neg c2]
      by_cases c3 : f.getD i 0 = 3
      · rw [if_pos c3,if_pos c3,if_pos (by omega)]
      · rw [if_neg c3,if_neg c3,if_pos (by omega)]
theorem scan_perm (f : List Int) (T n : Nat) (hT : 2 * n + 1 < T) : (scanP f T n).Perm (arrAll f n):=by
  induction n with
  | zero => unfold scanP;simp [arrAll]
  | succ n ih =>
    have h:=ih (by omega)
    rw [arrAll]
    refine List.Perm.trans ?_ (h.append_right _)
    rw [← hit_one f T n (by omega)]
    unfold scanP
    refine List.Perm.trans ?_ (flatMap_two _ _ _)
    refine List.Perm.of_eq ?_
    congr 1
    funext t
    rw [List.range_succ,List.flatMap_append]
    simp
/-- The scan by time answers as the sort. -/
theorem scan_eq (f : List Int) (n : Nat) : scanI f (2 * n + 3) n = arrI f n:=by
  rw [← scan_map]
  unfold arrI
  rw [List.Perm.eq_of_pairwise (fun a b _ _ h1 h2 => leA_anti h1 h2) (scan_sorted f (2 * n + 3) n) (outA_sorted _) ((scan_perm f (2 * n + 3) n (by omega)).trans (outA_perm _).symm)]

-- LIB passwire2
theorem arrI_len (f : List Int) (n : Nat) : (arrI f n).length ≤ 2 * n:=by
  unfold arrI
  rw [List.length_map,outA_len]
  exact arrAll_len f n
set_option maxHeartbeats 8000000 in
set_option maxRecDepth 100000 in
theorem x_PassWire (A0 : Option Addr) (c0 : Nat) (l0 : List Int) (A1 : Option Addr) (c1 : Nat) (l1 : List (List Int)) (w : World) (hn : l1.length ≤ 8) (hv : fatesB l0 = true) (hlb : ∀ b ∈ l1, b.length ≤ 600)
    (hr0 : Kd.C (Kd.int .i64) w A0 l0.length l0) (hc0 : l0.length ≤ c0) (hr1 : Kd.C (Kd.slice 5 (Kd.int .u8)) w A1 l1.length l1) :
    Calls Try.prog 53 #[.slice A0 l0.length c0,.slice A1 l1.length c1] w fun e w' => ∃ v : Value,e = .returned v ∧ Kd.S (Kd.slice 5 (Kd.int .u8)) 22 w' w.heap.size (fun _ => True) v (passL l0 l1) ∧ Below w.heap.size w w':=by
  have hmf : ∀ (fn : Fn) (first cap : Array Value) (w : World),(Instr.makeFunc fn first cap).run Try.prog w = .ok (.func fn first cap) w:=fun _ _ _ _ => rfl
  have hfv : impl_FatesValid.f l0 = some true:=by show some (fatesB l0) = some true;rw [hv]
  have hba : Below w.heap.size w (w.alloc (.cells #[.slice A0 l0.length c0] 24)):=below_alloc (Below.refl _ w) _
  have hbb:=below_alloc hba (.cells #[.slice A1 l1.length c1] 23)
  have hna:=blk_alloc (blk_new w (.cells #[.slice A0 l0.length c0] 24)) (.cells #[.slice A1 l1.length c1] 23)
  have hnb:=blk_new (w.alloc (.cells #[.slice A0 l0.length c0] 24)) (.cells #[.slice A1 l1.length c1] 23)
  have hsz : (w.alloc (.cells #[.slice A0 l0.length c0] 24)).heap.size = w.heap.size + 1:=by simp
  have hsz2 : ((w.alloc (.cells #[.slice A0 l0.length c0] 24)).alloc (.cells #[.slice A1 l1.length c1] 23)).heap.size = w.heap.size + 2:=by simp
  rw [hsz] at hnb
  have HBB:=Aside0.mk hbb
  have HNA:=Aside0.mk hna
  have HNB:=Aside0.mk hnb
  have HSZ:=Aside0.mk hsz2
  clear hba hbb hna hnb hsz hsz2
  have hcs:=fun W (hW : Below w.heap.size w W) => impl_canSend.calls A0 c0 l0 l1.length true W (Kd.C_below hr0 hW) hc0 (by unfold impl_canSend.f;rw [hfv];simp only [Option.bind_some,if_pos];unfold impl_within.f;simp;omega)
  have hall:=fun W (hW : Below w.heap.size w W) => x_all_dat (fun n => decide (n ≤ 600)) 67 #[] (enters_of Try.func67 (by kernel_rfl) rfl) A1 c1 l1 W (x_isDataP W) (Kd.C_below hr1 hW)
  rw [show (l1.all fun x => decide (x.length ≤ 600)) = true from by rw [List.all_eq_true];intro b hb;exact decide_eq_true (hlb b hb)] at hall
  have harr:=fun W (hW : Below w.heap.size w W) => x_arrOf A0 c0 l0 l1.length W hn hfv (Kd.C_below hr0 hW) hc0
  have hmap:=fun (A : Option Addr) (c : Nat) W (hW : Below w.heap.size w W) (hkl : W.cell? ⟨w.heap.size + 1,0,none⟩ = some (.slice A1 l1.length c1)) (hkf : W.cell? ⟨w.heap.size,0,none⟩ = some (.slice A0 l0.length c0)) (hgf : w.heap.size + 1 < W.heap.size) (hC : Kd.C (Kd.int .i64) W A (arrI l0 l1.length).length (arrI l0 l1.length)) =>
    x_mapb (passB l0 l1) 70 #[.pointer (some ⟨w.heap.size + 1,0,none⟩),.pointer (some ⟨w.heap.size,0,none⟩)] (enters_of Try.func70 (by kernel_rfl) rfl) A c (arrI l0 l1.length) W (by have:=arrI_len l0 l1.length;omega) hC
      (fun W' x hx hB' => x_pw1 (w.heap.size + 1) w.heap.size A0 c0 l0 A1 c1 l1 x W' (arrI_in l0 l1.length x hx).1 (arrI_in l0 l1.length x hx).2 hlb ((hB'.cell (p:=⟨w.heap.size + 1,0,none⟩) hgf).trans hkl) ((hB'.cell (p:=⟨w.heap.size,0,none⟩) (by show w.heap.size < _;omega)).trans hkf) (by have:=hB'.size;omega) (Kd.C_below hr0 (below_step hW hB')) hc0 (Kd.C_below hr1 (below_step hW hB')))
  have HPL : Aside0 (passL l0 l1 = (arrI l0 l1.length).map (passB l0 l1)):=⟨rfl⟩
  rw [HPL.out]
  have HCS:=Aside0.mk hcs
  have HALL:=Aside0.mk hall
  have HARR:=Aside0.mk harr
  have HMAP:=Aside0.mk hmap
  clear hcs hall harr hmap hr0 hr1 hc0 hlb hv hfv HPL
  go_enter Try.func53,Try.ntmps53
  go_wp2_with fail
  refine (HCS.out _ HBB.out).mono ?_
  rintro e w1 ⟨rfl,hb1⟩
  have HB1:=Aside0.mk (below_step HBB.out hb1)
  have HNA1:=Aside0.mk (blk_below HNA.out hb1)
  have HNB1:=Aside0.mk (blk_below HNB.out hb1)
  have HS1 : Aside0 (w.heap.size + 1 < w1.heap.size):=⟨by have:=hb1.size;have:=HSZ.out;omega⟩
  clear hb1 HCS HNA HNB HSZ HBB
  have k0 : w1.cell? ⟨w.heap.size,0,none⟩ = some (.slice A0 l0.length c0):=(blk_cell HNA1.out 0).trans rfl
  have k1 : w1.cell? ⟨w.heap.size + 1,0,none⟩ = some (.slice A1 l1.length c1):=(blk_cell HNB1.out 0).trans rfl
  go_wp2_with fail
  refine (HALL.out _ HB1.out).mono ?_
  rintro e w2 ⟨rfl,hb2⟩
  have HB2:=Aside0.mk (below_step HB1.out hb2)
  have HNA2:=Aside0.mk (blk_below HNA1.out hb2)
  have HNB2:=Aside0.mk (blk_below HNB1.out hb2)
  have HS2 : Aside0 (w.heap.size + 1 < w2.heap.size):=⟨by have:=hb2.size;have:=HS1.out;omega⟩
  clear hb2 HALL HNA1 HNB1 HS1 HB1 k0 k1
  have k0 : w2.cell? ⟨w.heap.size,0,none⟩ = some (.slice A0 l0.length c0):=(blk_cell HNA2.out 0).trans rfl
  have k1 : w2.cell? ⟨w.heap.size + 1,0,none⟩ = some (.slice A1 l1.length c1):=(blk_cell HNB2.out 0).trans rfl
  go_wp2_with fail
  refine (HARR.out _ HB2.out).mono ?_
  rintro e w3 ⟨v3,rfl,ho3,hb3⟩
  have HB3:=Aside0.mk (below_step HB2.out hb3)
  have HNA3:=blk_below HNA2.out hb3
  have HNB3:=blk_below HNB2.out hb3
  have hs3 : w.heap.size + 1 < w3.heap.size:=by have:=hb3.size;have:=HS2.out;omega
  obtain ⟨A3,c3,rfl⟩:=Kd.R_slice ho3
  have hm:=HMAP.out A3 c3 w3 HB3.out ((blk_cell HNB3 0).trans rfl) ((blk_cell HNA3 0).trans rfl) hs3 (Kd.R_reads' ho3).2.2
  clear hb3 HARR HMAP HNA2 HNB2 HS2 HB2 k0 k1 HNA3 HNB3 hs3 ho3
  go_wp2_with fail
  refine hm.mono ?_
  rintro e w4 ⟨v4,rfl,ho4,hb4⟩
  have HO4:=Aside0.mk (Kd.S_lower ho4 HB3.out.size)
  have HB4:=Aside0.mk (below_step HB3.out hb4)
  clear hm ho4 hb4
  go_wp2
  go_ret
  exact ⟨_,rfl,HO4.out,HB4.out⟩

/-! ### slices_Clone_int_int: function 72 (by hand) -/
def slices_Clone_int_int.f (l0 : List Int) : Option (List Int) :=
 if l0.length < 17592186044416 then some l0 else none
set_option maxHeartbeats 4000000 in
set_option maxRecDepth 100000 in
theorem slices_Clone_int_int.calls (A0 : Option Addr) (c0 : Nat) (l0 : List Int) (r : List Int) (w : World) (hr0 : Kd.C (Kd.int .i64) w A0 l0.length l0) (hc0 : l0.length ≤ c0) (h : slices_Clone_int_int.f l0 = some r) :
  Calls Try.prog 72 #[.slice A0 l0.length c0] w fun e w' => ∃ v0_ : Value,e = .returned (v0_) ∧ Kd.R (Kd.int .i64) 3 w' w.heap.size (fun _ => True) v0_ r ∧ Below w.heap.size w w':=by
 unfold slices_Clone_int_int.f at h
 by_cases hl : l0.length < 17592186044416
 ·rw [if_pos hl] at h
  obtain rfl:=Option.some.inj h
  clear h
  cases A0 with
  | none =>
   cases l0 with
   | cons x t =>
    obtain ⟨ad,e,_⟩:=Kd.at_int hr0 (0 : Int) (by omega) (by simp)
    cases e
   | nil =>
    have heq : ∀ w,(binOp .eql 24 (.slice none 0 c0) (.slice none 0 0)).run Try.prog w = .ok (.bool true) w:=fun w => Lib.run_eql_slice_nil (P:=Try.prog) w 24 3 none 0 c0 0 0 Try.underlying24
    clear hr0 hc0 hl
    simp only [List.length_nil]
    go_enter Try.func72,Try.ntmps72
    go_wp2
    go_ret
    exact ⟨_,rfl,Kd.R_nil _ _ _ _ _,Below.refl _ w⟩
  | some ad =>
   have heq : ∀ w,(binOp .eql 24 (.slice (some ad) l0.length c0) (.slice none 0 0)).run Try.prog w = .ok (.bool false) w:=fun w => Lib.run_eql_slice_nil (P:=Try.prog) w 24 3 (some ad) l0.length c0 0 0 Try.underlying24
   have HR:=mk_ hr0
   have HL:=mk_ hl
   clear hr0 hl
   go_enter Try.func72,Try.ntmps72
   go_wp2_with (first|((with_reducible refine gate_dst (N:=5) rfl ?_);refine Kd.R_lit (w0:=w) (Kd.int .i64) _ 3 ?hg (N:=5) ?hd (xs:=([] : List Int)) (inner:=[]) (ok:=fun _ => True) (okp:=fun _ => True) ?hr ?hp (fun _ hk => hk) trivial (Below.refl _ _) (Nat.le_refl _) (by simp) ?_;(case hd => rfl);(case hg => rfl);(case hr => first|(go_simp;done)|(go_simp;rfl));(case hp => exact (Reps.none _ _));intro v1 w1 ho hb _ _;have HO:=mk_ ho;have HB:=mk_ hb;clear ho hb)|((with_reducible refine gate_dst (N:=7) rfl ?_);refine Kd.R_append_rows (Kd.int .i64) (w0:=w) w.heap.size rfl (.tmp 5) (.tmp 6) 24 3 (.int .i64 0) 8 rfl Try.underlying24 (by kernel_rfl) rfl (by decide) (by omega) v1 [] l0 _ _ _ (fun _ => True) (fun _ => False) rfl rfl HO.out (cb_ HR.out HB.out) (fun _ _ h => h) (fun _ h => h.elim) (fun _ _ => trivial) HB.out HB.out.size (by have:=HL.out;simp only [List.length_nil];omega) ?_;intro v2 w2 ho hb _ _;rw [List.nil_append] at ho;have HO2:=mk_ ho;have HB2:=mk_ hb;clear ho hb))
   go_ret
   exact ⟨_,rfl,HO2.out,HB2.out⟩
 ·rw [if_neg hl] at h
  cases h

/-! ### impl_FatesBehind: function 54 -/
def impl_FatesBehind.f (l0 : List Int) (a1 : Int) : Option (List Int):=(impl_FatesValid.f l0).bind fun t143 => (if t143 = true then (if a1 < 0 then (some ([] : List Int)) else (if 0 ≤ (mn a1 (l0.length : Int)) then (if (mn a1 (l0.length : Int)) ≤ (l0.length : Int) then ((slices_Clone_int_int.f (l0.drop ((mn a1 (l0.length : Int)) : Int).toNat)).bind fun t145 => (some t145)) else (none)) else (none))) else (some ([] : List Int)))
set_option maxHeartbeats 8000000 in
set_option maxRecDepth 100000 in
theorem impl_FatesBehind.calls (A0 : Option Addr) (c0 : Nat) (l0 : List Int) (a1 : Int) (r : List Int) (w : World) (hr0 : Kd.C (Kd.int .i64) w A0 l0.length l0) (hc0 : l0.length ≤ c0) (h : impl_FatesBehind.f l0 a1 = some r) :
  Calls Try.prog 54 #[.slice A0 l0.length c0,.int .i64 a1] w fun e w' => ∃ v0_ : Value,e = .returned (v0_) ∧ Kd.R (Kd.int .i64) 3 w' w.heap.size (fun _ => True) v0_ r ∧ Below w.heap.size w w':=by
 have HR0:=mk_ hr0
 have HC0:=mk_ hc0
 clear hr0 hc0
 have HB:=mk_ (Below.refl w.heap.size w)
 have H : ((impl_FatesValid.f l0).bind fun t143 => (if t143 = true then (if a1 < 0 then (some ([] : List Int)) else (if 0 ≤ (mn a1 (l0.length : Int)) then (if (mn a1 (l0.length : Int)) ≤ (l0.length : Int) then ((slices_Clone_int_int.f (l0.drop ((mn a1 (l0.length : Int)) : Int).toNat)).bind fun t145 => (some t145)) else (none)) else (none))) else (some ([] : List Int)))) = some r:=h
 clear h
 replace H:=Option.bind_eq_some_iff.mp H
 obtain ⟨t143,A30,H⟩:=H
 replace H : (if t143 = true then (if a1 < 0 then (some ([] : List Int)) else (if 0 ≤ (mn a1 (l0.length : Int)) then (if (mn a1 (l0.length : Int)) ≤ (l0.length : Int) then ((slices_Clone_int_int.f (l0.drop ((mn a1 (l0.length : Int)) : Int).toNat)).bind fun t145 => (some t145)) else (none)) else (none))) else (some ([] : List Int))) = some r:=H
 have A3:=mk_ A30
 clear A30
 by_cases c4 : t143 = true
 ·subst c4
  have H1 : (if a1 < 0 then (some ([] : List Int)) else (if 0 ≤ (mn a1 (l0.length : Int)) then (if (mn a1 (l0.length : Int)) ≤ (l0.length : Int) then ((slices_Clone_int_int.f (l0.drop ((mn a1 (l0.length : Int)) : Int).toNat)).bind fun t145 => (some t145)) else (none)) else (none))) = some r:=by rw [if_pos rfl] at H;exact H
  clear H
  have H:=H1
  clear H1
  by_cases c5 : a1 < 0
  ·rw [if_pos c5] at H
   have c5b0 : decide (a1 < 0) = true:=decide_eq_true c5
   clear c5
   obtain rfl:=Option.some.inj H
   go_enter Try.func54,Try.ntmps54
   go_wp2_with (first|((with_reducible refine gate_callee (f:=43) rfl ?_);refine goesL_ (some 6) rfl rfl Try.func43 (by kernel_rfl) rfl #[.slice A0 l0.length c0] rfl qm_ ?_;(with_reducible refine (impl_FatesValid.calls _ _ l0 true _ ?side1 ?side2 A3.out).mono ?_);(case side1 => repeat (first|exact HR0.out|(with_reducible refine ca_ ?_ _)|(with_reducible refine cn_ ?_ _)|(with_reducible refine cd_ ?_)));(case side2 => exact HC0.out);rintro e w6 ⟨rfl,hb⟩;refine ⟨_,rfl,?_⟩;have n0_:=mk_ (st_ (qb_ HB) hb);clear HB;have HB:=n0_;clear n0_;(try clear hb);(try clear hb2);(try clear hk);(try clear hi)))
   go_ret
   exact ⟨_,qe_,by first|exact Kd.R_nil _ _ _ _ _|exact Kd.N_nil _ _ _ _ _|exact Kd.V_nil _ _ _ _ _|exact Kd.Q_nil _ _ _ _ _|exact Kd.S_nil _ _ _ _ _,u0_ HB⟩
  ·rw [if_neg c5] at H
   have c5b0 : decide (a1 < 0) = false:=decide_eq_false c5
   clear c5
   obtain ⟨ji7,hji7⟩ : ∃ j_ : Int,(mn a1 (l0.length : Int)) = j_:=⟨_,rfl⟩
   replace H : (if 0 ≤ (ji7) then (if (ji7) ≤ (l0.length : Int) then ((slices_Clone_int_int.f (l0.drop ((ji7) : Int).toNat)).bind fun t145 => (some t145)) else (none)) else (none)) = some r:=by first|(rw [hji7] at H;exact H)|(simp only [hji7] at H ⊢;exact H)
   (try rw [hji7] at A3)
   have hji7_ : (if (l0.length : Int) < a1 then (l0.length : Int) else a1) = ji7:=hji7
   by_cases c8 : 0 ≤ (ji7)
   ·rw [if_pos c8] at H
    have c8b0:=eq_true c8
    have c8b1 : decide (0 ≤ (ji7)) = true:=decide_eq_true c8
    clear c8
    by_cases c9 : (ji7) ≤ (l0.length : Int)
    ·rw [if_pos c9] at H
     have c9b0:=eq_true c9
     have c9b1 : decide ((ji7) ≤ (l0.length : Int)) = true:=decide_eq_true c9
     clear c9
     replace H:=Option.bind_eq_some_iff.mp H
     obtain ⟨t145,A100,H⟩:=H
     replace H : (some t145) = some r:=H
     have A10:=mk_ A100
     clear A100
     obtain rfl:=Option.some.inj H
     go_enter Try.func54,Try.ntmps54
     go_wp2_with (first|((with_reducible refine gate_callee (f:=43) rfl ?_);refine goesL_ (some 6) rfl rfl Try.func43 (by kernel_rfl) rfl #[.slice A0 l0.length c0] rfl qm_ ?_;(with_reducible refine (impl_FatesValid.calls _ _ l0 true _ ?side1 ?side2 A3.out).mono ?_);(case side1 => repeat (first|exact HR0.out|(with_reducible refine ca_ ?_ _)|(with_reducible refine cn_ ?_ _)|(with_reducible refine cd_ ?_)));(case side2 => exact HC0.out);rintro e w11 ⟨rfl,hb⟩;refine ⟨_,rfl,?_⟩;have n0_:=mk_ (st_ (qb_ HB) hb);clear HB;have HB:=n0_;clear n0_;(try clear hb);(try clear hb2);(try clear hk);(try clear hi);obtain ⟨i012,hi012,_,hsz12,_⟩:=info_parts info3;obtain ⟨A12,hcut12,hA12,hC12⟩:=print_drop_of (P:=Try.prog) (Value.int .i64) 0 24 3 .i64 Try.underlying24 hi012 hsz12 A0 c0 l0 (ji7) (od_ qa_) (od_ qa_) HC0.out;have HR144:=mk_ (Kd.C_of_reads (h1:=fun _ => rfl) (hA12 _ (Kd.reads_of_C HR0.out)));have HC144:=mk_ hC12;clear hA12 hC12 hi012 hsz12)|((with_reducible refine gate_callee (f:=72) rfl ?_);refine goesL_ (some 18) rfl rfl Try.func72 (by kernel_rfl) rfl #[.slice A12 (l0.drop ((ji7) : Int).toNat).length (c0 - (ji7).toNat)] rfl (by (try simp only [List.map_toArray,List.map_cons,List.map_nil]);first|done|(rw [show (l0.drop ((ji7) : Int).toNat).length = (l0.length - (ji7).toNat) from List.length_drop] <;> rfl)|(simp only [hji7];rfl)|rfl|(simp only [List.length_drop,List.length_take];rfl)) ?_;(with_reducible refine (slices_Clone_int_int.calls _ _ (l0.drop ((ji7) : Int).toNat) t145 _ ?side1 ?side2 A10.out).mono ?_);(case side1 => exact qn_ HR144 HB);(case side2 => exact HC144.out);rintro e w13 ⟨v146,rfl,ho0,hb⟩;refine ⟨_,rfl,?_⟩;have n0_:=mk_ (Kd.R_lower ho0 (bz_ (qb_ HB)));have n1_:=mk_ (st_ (qb_ HB) hb);clear HB;have HO147:=n0_;have HB:=n1_;clear n0_ n1_;(try clear hb);(try clear hb2);(try clear hk);(try clear hi);(try clear ho0)))
     go_ret
     exact ⟨_,by first|rfl|(simp [errW_none,errW_some] <;> rfl)|(simp only [← hji7];first|rfl|(simp [errW_none,errW_some] <;> rfl))|(simp [*,errW_none,errW_some] <;> rfl),qr_ HO147,u0_ HB⟩
    ·rw [if_neg c9] at H
     exact absurd H (by simp)
   ·rw [if_neg c8] at H
    exact absurd H (by simp)
 ·replace c4:=Bool.eq_false_iff.mpr c4
  subst c4
  have H1 : (some ([] : List Int)) = some r:=by rw [if_neg (show ¬ (false = true) by decide)] at H;exact H
  clear H
  have H:=H1
  clear H1
  obtain rfl:=Option.some.inj H
  go_enter Try.func54,Try.ntmps54
  go_wp2_with (first|((with_reducible refine gate_callee (f:=43) rfl ?_);refine goesL_ (some 6) rfl rfl Try.func43 (by kernel_rfl) rfl #[.slice A0 l0.length c0] rfl qm_ ?_;(with_reducible refine (impl_FatesValid.calls _ _ l0 false _ ?side1 ?side2 A3.out).mono ?_);(case side1 => repeat (first|exact HR0.out|(with_reducible refine ca_ ?_ _)|(with_reducible refine cn_ ?_ _)|(with_reducible refine cd_ ?_)));(case side2 => exact HC0.out);rintro e w14 ⟨rfl,hb⟩;refine ⟨_,rfl,?_⟩;have n0_:=mk_ (st_ (qb_ HB) hb);clear HB;have HB:=n0_;clear n0_;(try clear hb);(try clear hb2);(try clear hk);(try clear hi)))
  go_ret
  exact ⟨_,qe_,by first|exact Kd.R_nil _ _ _ _ _|exact Kd.N_nil _ _ _ _ _|exact Kd.V_nil _ _ _ _ _|exact Kd.Q_nil _ _ _ _ _|exact Kd.S_nil _ _ _ _ _,u0_ HB⟩

/-! ### impl_CutCrc: function 55 -/
def impl_CutCrc.f (k : Nat) (l0 : List Int) : Option (List Int × Bool):=(impl_isData.f l0).bind fun t154 => (if t154 = true then (if (wrap64 ((l0.length : Int) - 2)) < 0 then (some (([] : List Int),false)) else (if 0 ≤ (wrap64 ((l0.length : Int) - 2)) then (if (wrap64 ((l0.length : Int) - 2)) ≤ (l0.length : Int) then ((impl_CrcOf.f k (l0.take ((wrap64 ((l0.length : Int) - 2)) : Int).toNat)).bind fun t156 => (if (wrap64 ((l0.length : Int) - 2)) < (l0.length : Int) then (if 0 ≤ (wrap64 ((wrap64 ((l0.length : Int) - 2)) + 1)) then (if (wrap64 ((wrap64 ((l0.length : Int) - 2)) + 1)) < (l0.length : Int) then (if t156 = (Go.bits .or .i64 (wrap64 ((wrap64 (rd l0 (wrap64 ((l0.length : Int) - 2)))) * 256)) (wrap64 (rd l0 (wrap64 ((wrap64 ((l0.length : Int) - 2)) + 1))))) then ((some (([] : List Int) : List Int)).bind fun y159 => (if y159.length + (l0.take ((wrap64 ((l0.length : Int) - 2)) : Int).toNat).length < 140737488355328 then (some ((y159 ++ (l0.take ((wrap64 ((l0.length : Int) - 2)) : Int).toNat)),true)) else (none))) else (some (([] : List Int),false))) else (none)) else (none)) else (none))) else (none)) else (none))) else (some (([] : List Int),false)))
theorem impl_CutCrc.mono : ∀ a0 k,LeO (impl_CutCrc.f k a0) (impl_CutCrc.f (k + 1) a0):=by
 intro a0 k
 unfold impl_CutCrc.f
 repeat' first
   | (with_reducible exact impl_CrcOf.mono _ _)
   | (with_reducible exact LeO.refl _)
   | (with_reducible exact LeO.none _)
   | (with_reducible refine LeO.ite ?_ ?_)
   | (with_reducible refine LeO.bind ?_ (fun _ => ?_))
   | exact impl_CrcOf.mono _ _
   | exact LeO.none _
   | refine LeO.ite ?_ ?_
   | refine LeO.bind ?_ (fun _ => ?_)
set_option maxHeartbeats 8000000 in
set_option maxRecDepth 100000 in
theorem impl_CutCrc.calls (k : Nat) (A0 : Option Addr) (c0 : Nat) (l0 : List Int) (r1 : List Int) (r2 : Bool) (w : World) (hr0 : Kd.C (Kd.int .u8) w A0 l0.length l0) (hc0 : l0.length ≤ c0) (h : impl_CutCrc.f k l0 = some (r1,r2)) :
  Calls Try.prog 55 #[.slice A0 l0.length c0] w fun e w' => ∃ v0_ : Value,e = .returned (.tuple #[v0_,.bool r2]) ∧ Kd.R (Kd.int .u8) 5 w' w.heap.size (fun _ => True) v0_ r1 ∧ Below w.heap.size w w':=by
 have HR0:=mk_ hr0
 have HC0:=mk_ hc0
 clear hr0 hc0
 have HB:=mk_ (Below.refl w.heap.size w)
 have H : ((impl_isData.f l0).bind fun t154 => (if t154 = true then (if (wrap64 ((l0.length : Int) - 2)) < 0 then (some (([] : List Int),false)) else (if 0 ≤ (wrap64 ((l0.length : Int) - 2)) then (if (wrap64 ((l0.length : Int) - 2)) ≤ (l0.length : Int) then ((impl_CrcOf.f k (l0.take ((wrap64 ((l0.length : Int) - 2)) : Int).toNat)).bind fun t156 => (if (wrap64 ((l0.length : Int) - 2)) < (l0.length : Int) then (if 0 ≤ (wrap64 ((wrap64 ((l0.length : Int) - 2)) + 1)) then (if (wrap64 ((wrap64 ((l0.length : Int) - 2)) + 1)) < (l0.length : Int) then (if t156 = (Go.bits .or .i64 (wrap64 ((wrap64 (rd l0 (wrap64 ((l0.length : Int) - 2)))) * 256)) (wrap64 (rd l0 (wrap64 ((wrap64 ((l0.length : Int) - 2)) + 1))))) then ((some (([] : List Int) : List Int)).bind fun y159 => (if y159.length + (l0.take ((wrap64 ((l0.length : Int) - 2)) : Int).toNat).length < 140737488355328 then (some ((y159 ++ (l0.take ((wrap64 ((l0.length : Int) - 2)) : Int).toNat)),true)) else (none))) else (some (([] : List Int),false))) else (none)) else (none)) else (none))) else (none)) else (none))) else (some (([] : List Int),false)))) = some (r1,r2):=h
 clear h
 replace H:=Option.bind_eq_some_iff.mp H
 obtain ⟨t154,A20,H⟩:=H
 replace H : (if t154 = true then (if (wrap64 ((l0.length : Int) - 2)) < 0 then (some (([] : List Int),false)) else (if 0 ≤ (wrap64 ((l0.length : Int) - 2)) then (if (wrap64 ((l0.length : Int) - 2)) ≤ (l0.length : Int) then ((impl_CrcOf.f k (l0.take ((wrap64 ((l0.length : Int) - 2)) : Int).toNat)).bind fun t156 => (if (wrap64 ((l0.length : Int) - 2)) < (l0.length : Int) then (if 0 ≤ (wrap64 ((wrap64 ((l0.length : Int) - 2)) + 1)) then (if (wrap64 ((wrap64 ((l0.length : Int) - 2)) + 1)) < (l0.length : Int) then (if t156 = (Go.bits .or .i64 (wrap64 ((wrap64 (rd l0 (wrap64 ((l0.length : Int) - 2)))) * 256)) (wrap64 (rd l0 (wrap64 ((wrap64 ((l0.length : Int) - 2)) + 1))))) then ((some (([] : List Int) : List Int)).bind fun y159 => (if y159.length + (l0.take ((wrap64 ((l0.length : Int) - 2)) : Int).toNat).length < 140737488355328 then (some ((y159 ++ (l0.take ((wrap64 ((l0.length : Int) - 2)) : Int).toNat)),true)) else (none))) else (some (([] : List Int),false))) else (none)) else (none)) else (none))) else (none)) else (none))) else (some (([] : List Int),false))) = some (r1,r2):=H
 have A2:=mk_ A20
 clear A20
 by_cases c3 : t154 = true
 ·subst c3
  have H1 : (if (wrap64 ((l0.length : Int) - 2)) < 0 then (some (([] : List Int),false)) else (if 0 ≤ (wrap64 ((l0.length : Int) - 2)) then (if (wrap64 ((l0.length : Int) - 2)) ≤ (l0.length : Int) then ((impl_CrcOf.f k (l0.take ((wrap64 ((l0.length : Int) - 2)) : Int).toNat)).bind fun t156 => (if (wrap64 ((l0.length : Int) - 2)) < (l0.length : Int) then (if 0 ≤ (wrap64 ((wrap64 ((l0.length : Int) - 2)) + 1)) then (if (wrap64 ((wrap64 ((l0.length : Int) - 2)) + 1)) < (l0.length : Int) then (if t156 = (Go.bits .or .i64 (wrap64 ((wrap64 (rd l0 (wrap64 ((l0.length : Int) - 2)))) * 256)) (wrap64 (rd l0 (wrap64 ((wrap64 ((l0.length : Int) - 2)) + 1))))) then ((some (([] : List Int) : List Int)).bind fun y159 => (if y159.length + (l0.take ((wrap64 ((l0.length : Int) - 2)) : Int).toNat).length < 140737488355328 then (some ((y159 ++ (l0.take ((wrap64 ((l0.length : Int) - 2)) : Int).toNat)),true)) else (none))) else (some (([] : List Int),false))) else (none)) else (none)) else (none))) else (none)) else (none))) = some (r1,r2):=by rw [if_pos rfl] at H;exact H
  clear H
  have H:=H1
  clear H1
  by_cases c4 : (wrap64 ((l0.length : Int) - 2)) < 0
  ·rw [if_pos c4] at H
   have c4b0 : decide ((wrap64 ((l0.length : Int) - 2)) < 0) = true:=decide_eq_true c4
   clear c4
   simp only [Option.some.injEq,Prod.mk.injEq] at H
   obtain ⟨rfl,rfl⟩:=H
   go_enter Try.func55,Try.ntmps55
   go_wp2_with (first|(go_at_call 67;(with_reducible refine (impl_isData.calls _ _ l0 true _ ?side1 ?side2 A2.out).mono ?_);(case side1 => repeat (first|exact HR0.out|(with_reducible refine ca_ ?_ _)|(with_reducible refine cn_ ?_ _)|(with_reducible refine cd_ ?_)));(case side2 => exact HC0.out);rintro e w' ⟨rfl,⟨nd,rfl⟩⟩;(try first|exact ⟨rfl,_,World.drewN_drewN _ _ _⟩|exact ⟨rfl,_,Eq.trans (World.drewN_drewN _ _ _) (congrArg (World.drewN _) (Nat.add_assoc _ _ _))⟩)))
   repeat (go_quiet (first|(go_at_call 67;(with_reducible refine (impl_isData.calls _ _ l0 true _ ?side1 ?side2 A2.out).mono ?_);(case side1 => repeat (first|exact HR0.out|(with_reducible refine ca_ ?_ _)|(with_reducible refine cn_ ?_ _)|(with_reducible refine cd_ ?_)));(case side2 => exact HC0.out);rintro e w' ⟨rfl,⟨nd,rfl⟩⟩;(try first|exact ⟨rfl,_,World.drewN_drewN _ _ _⟩|exact ⟨rfl,_,Eq.trans (World.drewN_drewN _ _ _) (congrArg (World.drewN _) (Nat.add_assoc _ _ _))⟩)));try go_wp2_with (first|(go_at_call 67;(with_reducible refine (impl_isData.calls _ _ l0 true _ ?side1 ?side2 A2.out).mono ?_);(case side1 => repeat (first|exact HR0.out|(with_reducible refine ca_ ?_ _)|(with_reducible refine cn_ ?_ _)|(with_reducible refine cd_ ?_)));(case side2 => exact HC0.out);rintro e w' ⟨rfl,⟨nd,rfl⟩⟩;(try first|exact ⟨rfl,_,World.drewN_drewN _ _ _⟩|exact ⟨rfl,_,Eq.trans (World.drewN_drewN _ _ _) (congrArg (World.drewN _) (Nat.add_assoc _ _ _))⟩))))
   go_ret2
   exact ⟨_,qe_,by first|exact Kd.R_nil _ _ _ _ _|exact Kd.N_nil _ _ _ _ _|exact Kd.V_nil _ _ _ _ _|exact Kd.Q_nil _ _ _ _ _|exact Kd.S_nil _ _ _ _ _,u0_ HB⟩
  ·rw [if_neg c4] at H
   have c4b0 : decide ((wrap64 ((l0.length : Int) - 2)) < 0) = false:=decide_eq_false c4
   clear c4
   obtain ⟨ji5,hji5⟩ : ∃ j_ : Int,(wrap64 ((l0.length : Int) - 2)) = j_:=⟨_,rfl⟩
   replace H : (if 0 ≤ (ji5) then (if (ji5) ≤ (l0.length : Int) then ((impl_CrcOf.f k (l0.take ((ji5) : Int).toNat)).bind fun t156 => (if (ji5) < (l0.length : Int) then (if 0 ≤ (wrap64 ((ji5) + 1)) then (if (wrap64 ((ji5) + 1)) < (l0.length : Int) then (if t156 = (Go.bits .or .i64 (wrap64 ((wrap64 (rd l0 (ji5))) * 256)) (wrap64 (rd l0 (wrap64 ((ji5) + 1))))) then ((some (([] : List Int) : List Int)).bind fun y159 => (if y159.length + (l0.take ((ji5) : Int).toNat).length < 140737488355328 then (some ((y159 ++ (l0.take ((ji5) : Int).toNat)),true)) else (none))) else (some (([] : List Int),false))) else (none)) else (none)) else (none))) else (none)) else (none)) = some (r1,r2):=by first|(rw [hji5] at H;exact H)|(simp only [hji5] at H ⊢;exact H)
   (try rw [hji5] at c4b0)
   (try rw [hji5] at A2)
   have hji5w : (IntKind.i64.wrap ((l0.length : Int) - 2)) = ji5:=(i64_w _).trans hji5
   by_cases c6 : 0 ≤ (ji5)
   ·rw [if_pos c6] at H
    have c6b0:=eq_true c6
    have c6b1 : decide (0 ≤ (ji5)) = true:=decide_eq_true c6
    clear c6
    by_cases c7 : (ji5) ≤ (l0.length : Int)
    ·rw [if_pos c7] at H
     have c7b0:=eq_true c7
     have c7b1 : decide ((ji5) ≤ (l0.length : Int)) = true:=decide_eq_true c7
     clear c7
     replace H:=Option.bind_eq_some_iff.mp H
     obtain ⟨t156,A80,H⟩:=H
     replace H : (if (ji5) < (l0.length : Int) then (if 0 ≤ (wrap64 ((ji5) + 1)) then (if (wrap64 ((ji5) + 1)) < (l0.length : Int) then (if t156 = (Go.bits .or .i64 (wrap64 ((wrap64 (rd l0 (ji5))) * 256)) (wrap64 (rd l0 (wrap64 ((ji5) + 1))))) then ((some (([] : List Int) : List Int)).bind fun y159 => (if y159.length + (l0.take ((ji5) : Int).toNat).length < 140737488355328 then (some ((y159 ++ (l0.take ((ji5) : Int).toNat)),true)) else (none))) else (some (([] : List Int),false))) else (none)) else (none)) else (none)) = some (r1,r2):=H
     have A8:=mk_ A80
     clear A80
     by_cases c9 : (ji5) < (l0.length : Int)
     ·rw [if_pos c9] at H
      have c9b0 : decide ((ji5) < (l0.length : Int)) = true:=decide_eq_true c9
      clear c9
      obtain ⟨ji10,hji10⟩ : ∃ j_ : Int,(wrap64 ((ji5) + 1)) = j_:=⟨_,rfl⟩
      replace H : (if 0 ≤ (ji10) then (if (ji10) < (l0.length : Int) then (if t156 = (Go.bits .or .i64 (wrap64 ((wrap64 (rd l0 (ji5))) * 256)) (wrap64 (rd l0 (ji10)))) then ((some (([] : List Int) : List Int)).bind fun y159 => (if y159.length + (l0.take ((ji5) : Int).toNat).length < 140737488355328 then (some ((y159 ++ (l0.take ((ji5) : Int).toNat)),true)) else (none))) else (some (([] : List Int),false))) else (none)) else (none)) = some (r1,r2):=by first|(rw [hji10] at H;exact H)|(simp only [hji10] at H ⊢;exact H)
      (try rw [hji10] at A2)
      (try rw [hji10] at A8)
      have hji10w : (IntKind.i64.wrap ((ji5) + 1)) = ji10:=(i64_w _).trans hji10
      by_cases c11 : 0 ≤ (ji10)
      ·rw [if_pos c11] at H
       have c11b0 : decide (0 ≤ (ji10)) = true:=decide_eq_true c11
       clear c11
       by_cases c12 : (ji10) < (l0.length : Int)
       ·rw [if_pos c12] at H
        have c12b0 : decide ((ji10) < (l0.length : Int)) = true:=decide_eq_true c12
        clear c12
        by_cases c13 : t156 = (Go.bits .or .i64 (wrap64 ((wrap64 (rd l0 (ji5))) * 256)) (wrap64 (rd l0 (ji10))))
        ·rw [if_pos c13] at H
         have c13b0 : (t156 == (Go.bits .or .i64 (wrap64 ((wrap64 (rd l0 (ji5))) * 256)) (wrap64 (rd l0 (ji10))))) = true:=beq_iff_eq.mpr c13
         have c13b1 : (t156 != (Go.bits .or .i64 (wrap64 ((wrap64 (rd l0 (ji5))) * 256)) (wrap64 (rd l0 (ji10))))) = false:=bne_eq_false_iff_eq.mpr c13
         clear c13
         obtain ⟨y159,hy159⟩ : ∃ y_ : List Int,y_ = (([] : List Int)):=⟨_,rfl⟩
         replace H : (if y159.length + (l0.take ((ji5) : Int).toNat).length < 140737488355328 then (some ((y159 ++ (l0.take ((ji5) : Int).toNat)),true)) else (none)) = some (r1,r2):=by first|(rw [hy159];with_reducible exact H)|(have H2_:=(Option.bind_some _ _).symm.trans H;rw [hy159];with_reducible exact H2_)|(have H2_:=(Option.bind_some _ _).symm.trans H;with_reducible exact H2_)|with_reducible exact H|(rw [hy159];exact H)|exact H
         have Ny159:=mk_ hy159
         clear hy159
         have c14b0:=eq_true (od_ qa_ : 0 ≤ (ji5))
         have c15b0:=eq_true (od_ qa_ : (ji5) ≤ (l0.length : Int))
         by_cases c16 : y159.length + (l0.take ((ji5) : Int).toNat).length < 140737488355328
         ·rw [if_pos c16] at H
          have LMc16:=mk_ c16
          clear c16
          obtain ⟨y163,hy163⟩ : ∃ y_ : List Int,y_ = (y159 ++ (l0.take ((ji5) : Int).toNat)):=⟨_,rfl⟩
          replace H : (some (y163,true)) = some (r1,r2):=by first|(rw [hy163];with_reducible exact H)|(have H2_:=(Option.bind_some _ _).symm.trans H;rw [hy163];with_reducible exact H2_)|(have H2_:=(Option.bind_some _ _).symm.trans H;with_reducible exact H2_)|with_reducible exact H|(rw [hy163];exact H)|exact H
          have Ny163:=mk_ hy163
          clear hy163
          simp only [Option.some.injEq,Prod.mk.injEq] at H
          obtain ⟨rfl,rfl⟩:=H
          obtain ⟨i017,hi017,_,hsz17,_⟩:=info_parts info5
          obtain ⟨hcut17,hA17,hC17⟩:=print_take_of (P:=Try.prog) (Value.int .u8) 0 22 5 .i64 Try.underlying22 hi017 hsz17 A0 c0 l0 (ji5) (od_ qa_) (od_ qa_) HC0.out
          have HR155:=mk_ (Kd.C_of_reads (h1:=fun _ => rfl) (hA17 _ (Kd.reads_of_C HR0.out)))
          have HC155:=mk_ hC17
          clear hA17 hC17 hi017 hsz17
          have p157 : 0 ≤ ((ji5) : Int):=od_ qa_
          have q157 : (ji5) < (l0.length : Int):=od_ qa_
          obtain ⟨ad157,e157,hx157_0⟩:=Kd.at_int HR0.out (ji5) p157 q157
          cases e157
          replace p157:=eq_true p157
          replace q157:=eq_true q157
          have p158 : 0 ≤ ((ji10) : Int):=od_ qa_
          have q158 : (ji10) < (l0.length : Int):=od_ qa_
          obtain ⟨ad158,e158,hx158_0⟩:=Kd.at_int HR0.out (ji10) p158 q158
          obtain rfl : ad157 = ad158:=(by injection e158)
          replace p158:=eq_true p158
          replace q158:=eq_true q158
          have hl_ : (l0.take ((ji5) : Int).toNat).length = (ji5).toNat:=by rw [List.length_take];have h_ : (ji5 : Int) ≤ (l0.length : Int):=od_ qa_;omega
          have hcc_:=fun W (h1_ : Kd.C (Kd.int .u8) W (some ad157) (l0.take ((ji5) : Int).toNat).length (l0.take ((ji5) : Int).toNat)) => impl_CrcOf.calls k (some ad157) c0 (l0.take ((ji5) : Int).toNat) t156 W h1_ HC155.out A8.out
          rw [hl_] at hcc_
          have hrq_:=HR155.out
          rw [hl_] at hrq_
          have HRQ_:=mk_ hrq_
          clear hrq_ hl_
          go_enter Try.func55,Try.ntmps55
          go_wp2_with (first|(go_at_call 67;(with_reducible refine (impl_isData.calls _ _ l0 true _ ?side1 ?side2 A2.out).mono ?_);(case side1 => repeat (first|exact HR0.out|(with_reducible refine ca_ ?_ _)|(with_reducible refine cn_ ?_ _)|(with_reducible refine cd_ ?_)));(case side2 => exact HC0.out);rintro e w' ⟨rfl,⟨nd,rfl⟩⟩;(try first|exact ⟨rfl,_,World.drewN_drewN _ _ _⟩|exact ⟨rfl,_,Eq.trans (World.drewN_drewN _ _ _) (congrArg (World.drewN _) (Nat.add_assoc _ _ _))⟩))|(go_at_call 65;(with_reducible refine (hcc_ _ ?side1).mono ?_);(case side1 => repeat (first|exact HRQ_.out|(with_reducible refine ca_ ?_ _)|(with_reducible refine cn_ ?_ _)|(with_reducible refine cd_ ?_)));rintro e w' ⟨rfl,⟨nd,rfl⟩⟩;(try first|exact ⟨rfl,_,World.drewN_drewN _ _ _⟩|exact ⟨rfl,_,Eq.trans (World.drewN_drewN _ _ _) (congrArg (World.drewN _) (Nat.add_assoc _ _ _))⟩))|((with_reducible refine gate_dst (N:=35) rfl ?_);refine Kd.R_lit (Kd.int .u8) _ 5 ?hg (N:=35) ?hd (xs:=([] : List Int)) (inner:=[]) (ok:=fun _ => True) (okp:=fun _ => True) ?hr ?hp (fun _ hk => hk) trivial (Below.refl _ _) (Nat.le_refl _) (by simp) ?_;(case hd => rfl);(case hg => rfl);(case hr => first|(go_simp;done)|(go_simp;rfl));(case hp => exact (Reps.none _ _));intro v160 w18 ho19 hb hg_ hnew_;clear hg_ hnew_;(first|rw [← Ny159.out] at ho19|(simp only [Int.reduceToNat] at ho19;rw [← Ny159.out] at ho19));have n0_:=mk_ (Kd.R_lower ho19 (bz_ (qb_ HB)));have n1_:=mk_ (st_ (qb_ HB) hb);clear HB;have HO161:=n0_;have HB:=n1_;clear n0_ n1_ hb ho19;obtain ⟨i020,hi020,_,hsz20,_⟩:=info_parts info5;obtain ⟨hcut20,hA20,hC20⟩:=print_take_of (P:=Try.prog) (Value.int .u8) 0 22 5 .i64 Try.underlying22 hi020 hsz20 (some ad157) c0 l0 (ji5) (od_ qa_) (od_ qa_) HC0.out;have HR162:=mk_ (Kd.C_of_reads (h1:=fun _ => rfl) (hA20 _ (Kd.reads_of_C HR0.out)));have HC162:=mk_ hC20;clear hA20 hC20 hi020 hsz20)|((with_reducible refine gate_builtin (b:=.append) (xs:=#[.tmp 35,.tmp 38]) rfl ?_);at_builtin;refine Kd.R_append_rows (Kd.int .u8) (w0:=w) w.heap.size rfl (.tmp 35) (.tmp 38) 22 5 (.int .u8 0) 1 rfl Try.underlying22 info5 rfl (by decide) (by omega) v160 y159 (l0.take ((ji5) : Int).toNat) _ _ _ (fun _ => True) (fun _ => False) rfl rfl ?aO ?aR (fun _ _ h => h) (fun _ h => h.elim) ?aF ?aB ?aS ?aL ?_;(case aR => first|exact (cb_ HRQ_.out HB.out)|(rw [← show (l0.take ((ji5) : Int).toNat).length = (ji5).toNat from (by rw [List.length_take];have h_ : ((ji5) : Int) ≤ (l0.length : Int):=od_ qa_;omega)];exact qn_ HR162 HB)|(exact qn_ HR162 HB));(case aB => exact (qb_ HB));(case aF => exact (fun _ _ => trivial));(case aO => exact (qr_ HO161));(case aS => exact (bz_ (qb_ HB)));(case aL => have:=LMc16.out;have hlx_:=(show (l0.take ((ji5) : Int).toNat).length = (ji5).toNat from (by rw [List.length_take];have h_ : ((ji5) : Int) ≤ (l0.length : Int):=od_ qa_;omega));omega);intro v164 w21 ho hb hg hat;rw [← Ny163.out] at ho;have n0_:=mk_ (hb);have n1_:=mk_ (ho);clear HB HO161;have HB:=n0_;have HO165:=n1_;clear n0_ n1_ ho hb hg hat))
          repeat (go_quiet (first|(go_at_call 67;(with_reducible refine (impl_isData.calls _ _ l0 true _ ?side1 ?side2 A2.out).mono ?_);(case side1 => repeat (first|exact HR0.out|(with_reducible refine ca_ ?_ _)|(with_reducible refine cn_ ?_ _)|(with_reducible refine cd_ ?_)));(case side2 => exact HC0.out);rintro e w' ⟨rfl,⟨nd,rfl⟩⟩;(try first|exact ⟨rfl,_,World.drewN_drewN _ _ _⟩|exact ⟨rfl,_,Eq.trans (World.drewN_drewN _ _ _) (congrArg (World.drewN _) (Nat.add_assoc _ _ _))⟩))|(go_at_call 65;(with_reducible refine (hcc_ _ ?side1).mono ?_);(case side1 => repeat (first|exact HRQ_.out|(with_reducible refine ca_ ?_ _)|(with_reducible refine cn_ ?_ _)|(with_reducible refine cd_ ?_)));rintro e w' ⟨rfl,⟨nd,rfl⟩⟩;(try first|exact ⟨rfl,_,World.drewN_drewN _ _ _⟩|exact ⟨rfl,_,Eq.trans (World.drewN_drewN _ _ _) (congrArg (World.drewN _) (Nat.add_assoc _ _ _))⟩))|((with_reducible refine gate_dst (N:=35) rfl ?_);refine Kd.R_lit (Kd.int .u8) _ 5 ?hg (N:=35) ?hd (xs:=([] : List Int)) (inner:=[]) (ok:=fun _ => True) (okp:=fun _ => True) ?hr ?hp (fun _ hk => hk) trivial (Below.refl _ _) (Nat.le_refl _) (by simp) ?_;(case hd => rfl);(case hg => rfl);(case hr => first|(go_simp;done)|(go_simp;rfl));(case hp => exact (Reps.none _ _));intro v160 w18 ho19 hb hg_ hnew_;clear hg_ hnew_;(first|rw [← Ny159.out] at ho19|(simp only [Int.reduceToNat] at ho19;rw [← Ny159.out] at ho19));have n0_:=mk_ (Kd.R_lower ho19 (bz_ (qb_ HB)));have n1_:=mk_ (st_ (qb_ HB) hb);clear HB;have HO161:=n0_;have HB:=n1_;clear n0_ n1_ hb ho19;obtain ⟨i020,hi020,_,hsz20,_⟩:=info_parts info5;obtain ⟨hcut20,hA20,hC20⟩:=print_take_of (P:=Try.prog) (Value.int .u8) 0 22 5 .i64 Try.underlying22 hi020 hsz20 (some ad157) c0 l0 (ji5) (od_ qa_) (od_ qa_) HC0.out;have HR162:=mk_ (Kd.C_of_reads (h1:=fun _ => rfl) (hA20 _ (Kd.reads_of_C HR0.out)));have HC162:=mk_ hC20;clear hA20 hC20 hi020 hsz20)|((with_reducible refine gate_builtin (b:=.append) (xs:=#[.tmp 35,.tmp 38]) rfl ?_);at_builtin;refine Kd.R_append_rows (Kd.int .u8) (w0:=w) w.heap.size rfl (.tmp 35) (.tmp 38) 22 5 (.int .u8 0) 1 rfl Try.underlying22 info5 rfl (by decide) (by omega) v160 y159 (l0.take ((ji5) : Int).toNat) _ _ _ (fun _ => True) (fun _ => False) rfl rfl ?aO ?aR (fun _ _ h => h) (fun _ h => h.elim) ?aF ?aB ?aS ?aL ?_;(case aR => first|exact (cb_ HRQ_.out HB.out)|(rw [← show (l0.take ((ji5) : Int).toNat).length = (ji5).toNat from (by rw [List.length_take];have h_ : ((ji5) : Int) ≤ (l0.length : Int):=od_ qa_;omega)];exact qn_ HR162 HB)|(exact qn_ HR162 HB));(case aB => exact (qb_ HB));(case aF => exact (fun _ _ => trivial));(case aO => exact (qr_ HO161));(case aS => exact (bz_ (qb_ HB)));(case aL => have:=LMc16.out;have hlx_:=(show (l0.take ((ji5) : Int).toNat).length = (ji5).toNat from (by rw [List.length_take];have h_ : ((ji5) : Int) ≤ (l0.length : Int):=od_ qa_;omega));omega);intro v164 w21 ho hb hg hat;rw [← Ny163.out] at ho;have n0_:=mk_ (hb);have n1_:=mk_ (ho);clear HB HO161;have HB:=n0_;have HO165:=n1_;clear n0_ n1_ ho hb hg hat));try go_wp2_with (first|(go_at_call 67;(with_reducible refine (impl_isData.calls _ _ l0 true _ ?side1 ?side2 A2.out).mono ?_);(case side1 => repeat (first|exact HR0.out|(with_reducible refine ca_ ?_ _)|(with_reducible refine cn_ ?_ _)|(with_reducible refine cd_ ?_)));(case side2 => exact HC0.out);rintro e w' ⟨rfl,⟨nd,rfl⟩⟩;(try first|exact ⟨rfl,_,World.drewN_drewN _ _ _⟩|exact ⟨rfl,_,Eq.trans (World.drewN_drewN _ _ _) (congrArg (World.drewN _) (Nat.add_assoc _ _ _))⟩))|(go_at_call 65;(with_reducible refine (hcc_ _ ?side1).mono ?_);(case side1 => repeat (first|exact HRQ_.out|(with_reducible refine ca_ ?_ _)|(with_reducible refine cn_ ?_ _)|(with_reducible refine cd_ ?_)));rintro e w' ⟨rfl,⟨nd,rfl⟩⟩;(try first|exact ⟨rfl,_,World.drewN_drewN _ _ _⟩|exact ⟨rfl,_,Eq.trans (World.drewN_drewN _ _ _) (congrArg (World.drewN _) (Nat.add_assoc _ _ _))⟩))|((with_reducible refine gate_dst (N:=35) rfl ?_);refine Kd.R_lit (Kd.int .u8) _ 5 ?hg (N:=35) ?hd (xs:=([] : List Int)) (inner:=[]) (ok:=fun _ => True) (okp:=fun _ => True) ?hr ?hp (fun _ hk => hk) trivial (Below.refl _ _) (Nat.le_refl _) (by simp) ?_;(case hd => rfl);(case hg => rfl);(case hr => first|(go_simp;done)|(go_simp;rfl));(case hp => exact (Reps.none _ _));intro v160 w18 ho19 hb hg_ hnew_;clear hg_ hnew_;(first|rw [← Ny159.out] at ho19|(simp only [Int.reduceToNat] at ho19;rw [← Ny159.out] at ho19));have n0_:=mk_ (Kd.R_lower ho19 (bz_ (qb_ HB)));have n1_:=mk_ (st_ (qb_ HB) hb);clear HB;have HO161:=n0_;have HB:=n1_;clear n0_ n1_ hb ho19;obtain ⟨i020,hi020,_,hsz20,_⟩:=info_parts info5;obtain ⟨hcut20,hA20,hC20⟩:=print_take_of (P:=Try.prog) (Value.int .u8) 0 22 5 .i64 Try.underlying22 hi020 hsz20 (some ad157) c0 l0 (ji5) (od_ qa_) (od_ qa_) HC0.out;have HR162:=mk_ (Kd.C_of_reads (h1:=fun _ => rfl) (hA20 _ (Kd.reads_of_C HR0.out)));have HC162:=mk_ hC20;clear hA20 hC20 hi020 hsz20)|((with_reducible refine gate_builtin (b:=.append) (xs:=#[.tmp 35,.tmp 38]) rfl ?_);at_builtin;refine Kd.R_append_rows (Kd.int .u8) (w0:=w) w.heap.size rfl (.tmp 35) (.tmp 38) 22 5 (.int .u8 0) 1 rfl Try.underlying22 info5 rfl (by decide) (by omega) v160 y159 (l0.take ((ji5) : Int).toNat) _ _ _ (fun _ => True) (fun _ => False) rfl rfl ?aO ?aR (fun _ _ h => h) (fun _ h => h.elim) ?aF ?aB ?aS ?aL ?_;(case aR => first|exact (cb_ HRQ_.out HB.out)|(rw [← show (l0.take ((ji5) : Int).toNat).length = (ji5).toNat from (by rw [List.length_take];have h_ : ((ji5) : Int) ≤ (l0.length : Int):=od_ qa_;omega)];exact qn_ HR162 HB)|(exact qn_ HR162 HB));(case aB => exact (qb_ HB));(case aF => exact (fun _ _ => trivial));(case aO => exact (qr_ HO161));(case aS => exact (bz_ (qb_ HB)));(case aL => have:=LMc16.out;have hlx_:=(show (l0.take ((ji5) : Int).toNat).length = (ji5).toNat from (by rw [List.length_take];have h_ : ((ji5) : Int) ≤ (l0.length : Int):=od_ qa_;omega));omega);intro v164 w21 ho hb hg hat;rw [← Ny163.out] at ho;have n0_:=mk_ (hb);have n1_:=mk_ (ho);clear HB HO161;have HB:=n0_;have HO165:=n1_;clear n0_ n1_ ho hb hg hat)))
          go_ret2
          exact ⟨_,by first|rfl|(simp [errW_none,errW_some] <;> rfl)|(simp only [← hji5,← hji10];first|rfl|(simp [errW_none,errW_some] <;> rfl))|(simp [*,errW_none,errW_some] <;> rfl),qr_ HO165,u0_ HB⟩
         ·rw [if_neg c16] at H
          exact absurd H (by simp)
        ·rw [if_neg c13] at H
         have c13b0 : (t156 == (Go.bits .or .i64 (wrap64 ((wrap64 (rd l0 (ji5))) * 256)) (wrap64 (rd l0 (ji10))))) = false:=beq_eq_false_iff_ne.mpr c13
         have c13b1 : (t156 != (Go.bits .or .i64 (wrap64 ((wrap64 (rd l0 (ji5))) * 256)) (wrap64 (rd l0 (ji10))))) = true:=bne_iff_ne.mpr c13
         simp only [Option.some.injEq,Prod.mk.injEq] at H
         obtain ⟨rfl,rfl⟩:=H
         obtain ⟨i022,hi022,_,hsz22,_⟩:=info_parts info5
         obtain ⟨hcut22,hA22,hC22⟩:=print_take_of (P:=Try.prog) (Value.int .u8) 0 22 5 .i64 Try.underlying22 hi022 hsz22 A0 c0 l0 (ji5) (od_ qa_) (od_ qa_) HC0.out
         have HR155:=mk_ (Kd.C_of_reads (h1:=fun _ => rfl) (hA22 _ (Kd.reads_of_C HR0.out)))
         have HC155:=mk_ hC22
         clear hA22 hC22 hi022 hsz22
         have p157 : 0 ≤ ((ji5) : Int):=od_ qa_
         have q157 : (ji5) < (l0.length : Int):=od_ qa_
         obtain ⟨ad157,e157,hx157_0⟩:=Kd.at_int HR0.out (ji5) p157 q157
         cases e157
         replace p157:=eq_true p157
         replace q157:=eq_true q157
         have p158 : 0 ≤ ((ji10) : Int):=od_ qa_
         have q158 : (ji10) < (l0.length : Int):=od_ qa_
         obtain ⟨ad158,e158,hx158_0⟩:=Kd.at_int HR0.out (ji10) p158 q158
         obtain rfl : ad157 = ad158:=(by injection e158)
         replace p158:=eq_true p158
         replace q158:=eq_true q158
         have hl_ : (l0.take ((ji5) : Int).toNat).length = (ji5).toNat:=by rw [List.length_take];have h_ : (ji5 : Int) ≤ (l0.length : Int):=od_ qa_;omega
         have hcc_:=fun W (h1_ : Kd.C (Kd.int .u8) W (some ad157) (l0.take ((ji5) : Int).toNat).length (l0.take ((ji5) : Int).toNat)) => impl_CrcOf.calls k (some ad157) c0 (l0.take ((ji5) : Int).toNat) t156 W h1_ HC155.out A8.out
         rw [hl_] at hcc_
         have hrq_:=HR155.out
         rw [hl_] at hrq_
         have HRQ_:=mk_ hrq_
         clear hrq_ hl_
         go_enter Try.func55,Try.ntmps55
         go_wp2_with (first|(go_at_call 67;(with_reducible refine (impl_isData.calls _ _ l0 true _ ?side1 ?side2 A2.out).mono ?_);(case side1 => repeat (first|exact HR0.out|(with_reducible refine ca_ ?_ _)|(with_reducible refine cn_ ?_ _)|(with_reducible refine cd_ ?_)));(case side2 => exact HC0.out);rintro e w' ⟨rfl,⟨nd,rfl⟩⟩;(try first|exact ⟨rfl,_,World.drewN_drewN _ _ _⟩|exact ⟨rfl,_,Eq.trans (World.drewN_drewN _ _ _) (congrArg (World.drewN _) (Nat.add_assoc _ _ _))⟩))|(go_at_call 65;(with_reducible refine (hcc_ _ ?side1).mono ?_);(case side1 => repeat (first|exact HRQ_.out|(with_reducible refine ca_ ?_ _)|(with_reducible refine cn_ ?_ _)|(with_reducible refine cd_ ?_)));rintro e w' ⟨rfl,⟨nd,rfl⟩⟩;(try first|exact ⟨rfl,_,World.drewN_drewN _ _ _⟩|exact ⟨rfl,_,Eq.trans (World.drewN_drewN _ _ _) (congrArg (World.drewN _) (Nat.add_assoc _ _ _))⟩)))
         repeat (go_quiet (first|(go_at_call 67;(with_reducible refine (impl_isData.calls _ _ l0 true _ ?side1 ?side2 A2.out).mono ?_);(case side1 => repeat (first|exact HR0.out|(with_reducible refine ca_ ?_ _)|(with_reducible refine cn_ ?_ _)|(with_reducible refine cd_ ?_)));(case side2 => exact HC0.out);rintro e w' ⟨rfl,⟨nd,rfl⟩⟩;(try first|exact ⟨rfl,_,World.drewN_drewN _ _ _⟩|exact ⟨rfl,_,Eq.trans (World.drewN_drewN _ _ _) (congrArg (World.drewN _) (Nat.add_assoc _ _ _))⟩))|(go_at_call 65;(with_reducible refine (hcc_ _ ?side1).mono ?_);(case side1 => repeat (first|exact HRQ_.out|(with_reducible refine ca_ ?_ _)|(with_reducible refine cn_ ?_ _)|(with_reducible refine cd_ ?_)));rintro e w' ⟨rfl,⟨nd,rfl⟩⟩;(try first|exact ⟨rfl,_,World.drewN_drewN _ _ _⟩|exact ⟨rfl,_,Eq.trans (World.drewN_drewN _ _ _) (congrArg (World.drewN _) (Nat.add_assoc _ _ _))⟩)));try go_wp2_with (first|(go_at_call 67;(with_reducible refine (impl_isData.calls _ _ l0 true _ ?side1 ?side2 A2.out).mono ?_);(case side1 => repeat (first|exact HR0.out|(with_reducible refine ca_ ?_ _)|(with_reducible refine cn_ ?_ _)|(with_reducible refine cd_ ?_)));(case side2 => exact HC0.out);rintro e w' ⟨rfl,⟨nd,rfl⟩⟩;(try first|exact ⟨rfl,_,World.drewN_drewN _ _ _⟩|exact ⟨rfl,_,Eq.trans (World.drewN_drewN _ _ _) (congrArg (World.drewN _) (Nat.add_assoc _ _ _))⟩))|(go_at_call 65;(with_reducible refine (hcc_ _ ?side1).mono ?_);(case side1 => repeat (first|exact HRQ_.out|(with_reducible refine ca_ ?_ _)|(with_reducible refine cn_ ?_ _)|(with_reducible refine cd_ ?_)));rintro e w' ⟨rfl,⟨nd,rfl⟩⟩;(try first|exact ⟨rfl,_,World.drewN_drewN _ _ _⟩|exact ⟨rfl,_,Eq.trans (World.drewN_drewN _ _ _) (congrArg (World.drewN _) (Nat.add_assoc _ _ _))⟩))))
         go_ret2
         exact ⟨_,by first|rfl|(simp [errW_none,errW_some] <;> rfl)|(simp only [← hji5,← hji10];first|rfl|(simp [errW_none,errW_some] <;> rfl))|(simp [*,errW_none,errW_some] <;> rfl),by first|exact Kd.R_nil _ _ _ _ _|exact Kd.N_nil _ _ _ _ _|exact Kd.V_nil _ _ _ _ _|exact Kd.Q_nil _ _ _ _ _|exact Kd.S_nil _ _ _ _ _,u0_ HB⟩
       ·rw [if_neg c12] at H
        exact absurd H (by simp)
      ·rw [if_neg c11] at H
       exact absurd H (by simp)
     ·rw [if_neg c9] at H
      exact absurd H (by simp)
    ·rw [if_neg c7] at H
     exact absurd H (by simp)
   ·rw [if_neg c6] at H
    exact absurd H (by simp)
 ·replace c3:=Bool.eq_false_iff.mpr c3
  subst c3
  have H1 : (some (([] : List Int),false)) = some (r1,r2):=by rw [if_neg (show ¬ (false = true) by decide)] at H;exact H
  clear H
  have H:=H1
  clear H1
  simp only [Option.some.injEq,Prod.mk.injEq] at H
  obtain ⟨rfl,rfl⟩:=H
  go_enter Try.func55,Try.ntmps55
  go_wp2_with (first|(go_at_call 67;(with_reducible refine (impl_isData.calls _ _ l0 false _ ?side1 ?side2 A2.out).mono ?_);(case side1 => repeat (first|exact HR0.out|(with_reducible refine ca_ ?_ _)|(with_reducible refine cn_ ?_ _)|(with_reducible refine cd_ ?_)));(case side2 => exact HC0.out);rintro e w' ⟨rfl,⟨nd,rfl⟩⟩;(try first|exact ⟨rfl,_,World.drewN_drewN _ _ _⟩|exact ⟨rfl,_,Eq.trans (World.drewN_drewN _ _ _) (congrArg (World.drewN _) (Nat.add_assoc _ _ _))⟩)))
  repeat (go_quiet (first|(go_at_call 67;(with_reducible refine (impl_isData.calls _ _ l0 false _ ?side1 ?side2 A2.out).mono ?_);(case side1 => repeat (first|exact HR0.out|(with_reducible refine ca_ ?_ _)|(with_reducible refine cn_ ?_ _)|(with_reducible refine cd_ ?_)));(case side2 => exact HC0.out);rintro e w' ⟨rfl,⟨nd,rfl⟩⟩;(try first|exact ⟨rfl,_,World.drewN_drewN _ _ _⟩|exact ⟨rfl,_,Eq.trans (World.drewN_drewN _ _ _) (congrArg (World.drewN _) (Nat.add_assoc _ _ _))⟩)));try go_wp2_with (first|(go_at_call 67;(with_reducible refine (impl_isData.calls _ _ l0 false _ ?side1 ?side2 A2.out).mono ?_);(case side1 => repeat (first|exact HR0.out|(with_reducible refine ca_ ?_ _)|(with_reducible refine cn_ ?_ _)|(with_reducible refine cd_ ?_)));(case side2 => exact HC0.out);rintro e w' ⟨rfl,⟨nd,rfl⟩⟩;(try first|exact ⟨rfl,_,World.drewN_drewN _ _ _⟩|exact ⟨rfl,_,Eq.trans (World.drewN_drewN _ _ _) (congrArg (World.drewN _) (Nat.add_assoc _ _ _))⟩))))
  go_ret2
  exact ⟨_,qe_,by first|exact Kd.R_nil _ _ _ _ _|exact Kd.N_nil _ _ _ _ _|exact Kd.V_nil _ _ _ _ _|exact Kd.Q_nil _ _ _ _ _|exact Kd.S_nil _ _ _ _ _,u0_ HB⟩

/-! ### impl_UnpackLink: function 34 -/
def impl_UnpackLink.j0 : Nat → List Int → Bool → Option (Int × Int × List Int × Bool)
 | 0,_,_ => none
 | k + 1,x6,x21 => if x21 = true then (some (0,0,([] : List Int),false)) else (if 0 < (x6.length : Int) then ((impl_within.f (wrap64 (Int.tdiv (wrap64 (rd x6 0)) 16)) 1 2).bind fun t172 => (if t172 = true then (if (wrap64 (Int.tdiv (wrap64 (rd x6 0)) 16)) = 2 then (if (x6.length : Int) > 1 then (some (0,0,([] : List Int),false)) else (if 1 ≤ (x6.length : Int) then ((bytes_Clone.f (x6.drop 1)).bind fun t177 => (some (wrap64 (Int.tdiv (wrap64 (rd x6 0)) 16),Int.tmod (wrap64 (rd x6 0)) 16,t177,true))) else (none))) else (if 1 ≤ (x6.length : Int) then ((bytes_Clone.f (x6.drop 1)).bind fun t184 => (some (wrap64 (Int.tdiv (wrap64 (rd x6 0)) 16),Int.tmod (wrap64 (rd x6 0)) 16,t184,true))) else (none))) else (some (0,0,([] : List Int),false)))) else (none))
def impl_UnpackLink.f (k : Nat) (l0 : List Int) : Option (Int × Int × List Int × Bool):=(impl_CutCrc.f k l0).bind fun bt166 => (if bt166.2 = true then (impl_UnpackLink.j0 k bt166.1 ((bt166.1.length : Int) == 0)) else (impl_UnpackLink.j0 k bt166.1 true))
theorem impl_UnpackLink.mono_l : ∀ k,(∀ y0 y1,LeO (impl_UnpackLink.j0 k y0 y1) (impl_UnpackLink.j0 (k + 1) y0 y1))
 | 0 => fun _ _ r h => by simp [impl_UnpackLink.j0] at h
 | k + 1 => by
  have ih0:=impl_UnpackLink.mono_l k
  ·intro y0 y1
   unfold impl_UnpackLink.j0
   repeat' first
   | (with_reducible exact ih0 _ _)
   | (with_reducible exact impl_CutCrc.mono _ _)
   | (with_reducible exact LeO.refl _)
   | (with_reducible exact LeO.none _)
   | (with_reducible refine LeO.ite ?_ ?_)
   | (with_reducible refine LeO.bind ?_ (fun _ => ?_))
   | exact ih0 _ _
   | exact impl_CutCrc.mono _ _
   | exact LeO.none _
   | refine LeO.ite ?_ ?_
   | refine LeO.bind ?_ (fun _ => ?_)
theorem impl_UnpackLink.mono : ∀ a0 k,LeO (impl_UnpackLink.f k a0) (impl_UnpackLink.f (k + 1) a0):=by
 intro a0 k
 have ih0:=impl_UnpackLink.mono_l k
 unfold impl_UnpackLink.f
 repeat' first
   | (with_reducible exact ih0 _ _)
   | (with_reducible exact impl_CutCrc.mono _ _)
   | (with_reducible exact LeO.refl _)
   | (with_reducible exact LeO.none _)
   | (with_reducible refine LeO.ite ?_ ?_)
   | (with_reducible refine LeO.bind ?_ (fun _ => ?_))
   | exact ih0 _ _
   | exact impl_CutCrc.mono _ _
   | exact LeO.none _
   | refine LeO.ite ?_ ?_
   | refine LeO.bind ?_ (fun _ => ?_)
set_option maxHeartbeats 8000000 in
set_option maxRecDepth 100000 in
theorem impl_UnpackLink.calls (k : Nat) (A0 : Option Addr) (c0 : Nat) (l0 : List Int) (r1 : Int) (r2 : Int) (r3 : List Int) (r4 : Bool) (w : World) (hr0 : Kd.C (Kd.int .u8) w A0 l0.length l0) (hc0 : l0.length ≤ c0) (h : impl_UnpackLink.f k l0 = some (r1,r2,r3,r4)) :
  Calls Try.prog 34 #[.slice A0 l0.length c0] w fun e w' => ∃ v2_ : Value,e = .returned (.tuple #[.int .i64 r1,.int .i64 r2,v2_,.bool r4]) ∧ Kd.R (Kd.int .u8) 5 w' w.heap.size (fun _ => True) v2_ r3 ∧ Below w.heap.size w w':=by
 have HR0:=mk_ hr0
 have HC0:=mk_ hc0
 clear hr0 hc0
 have HB:=mk_ (Below.refl w.heap.size w)
 have H : ((impl_CutCrc.f k l0).bind fun bt166 => (if bt166.2 = true then (impl_UnpackLink.j0 k bt166.1 ((bt166.1.length : Int) == 0)) else (impl_UnpackLink.j0 k bt166.1 true))) = some (r1,r2,r3,r4):=h
 clear h
 replace H:=Option.bind_eq_some_iff.mp H
 obtain ⟨⟨t166,t167⟩,A20,H⟩:=H
 replace H : (if t167 = true then (impl_UnpackLink.j0 k t166 ((t166.length : Int) == 0)) else (impl_UnpackLink.j0 k t166 true)) = some (r1,r2,r3,r4):=H
 have A2:=mk_ A20
 clear A20
 have HC3:=mk_ H
 clear H
 go_enter Try.func34,Try.ntmps34
 go_upto_region 2 with (first|(go_at_call 55;(with_reducible refine (impl_CutCrc.calls k _ _ l0 t166 t167 _ ?side1 ?side2 A2.out).mono ?_);(case side1 => repeat (first|exact HR0.out|(with_reducible refine ca_ ?_ _)|(with_reducible refine cn_ ?_ _)|(with_reducible refine cd_ ?_)));(case side2 => exact HC0.out);rintro e w4 ⟨v168,rfl,ho0,hb⟩;have n0_:=mk_ (Kd.R_lower ho0 (bz_ (qb_ HB)));have n1_:=mk_ (st_ (qb_ HB) hb);clear HB;have HO169:=n0_;have HB:=n1_;clear n0_ n1_;(try clear hb);(try clear hb2);(try clear hk);(try clear hi);(try clear ho0)))
 repeat (go_quiet (first|(go_at_call 55;(with_reducible refine (impl_CutCrc.calls k _ _ l0 t166 t167 _ ?side1 ?side2 A2.out).mono ?_);(case side1 => repeat (first|exact HR0.out|(with_reducible refine ca_ ?_ _)|(with_reducible refine cn_ ?_ _)|(with_reducible refine cd_ ?_)));(case side2 => exact HC0.out);rintro e w4 ⟨v168,rfl,ho0,hb⟩;have n0_:=mk_ (Kd.R_lower ho0 (bz_ (qb_ HB)));have n1_:=mk_ (st_ (qb_ HB) hb);clear HB;have HO169:=n0_;have HB:=n1_;clear n0_ n1_;(try clear hb);(try clear hb2);(try clear hk);(try clear hi);(try clear ho0)));go_upto_region 2 with (first|(go_at_call 55;(with_reducible refine (impl_CutCrc.calls k _ _ l0 t166 t167 _ ?side1 ?side2 A2.out).mono ?_);(case side1 => repeat (first|exact HR0.out|(with_reducible refine ca_ ?_ _)|(with_reducible refine cn_ ?_ _)|(with_reducible refine cd_ ?_)));(case side2 => exact HC0.out);rintro e w4 ⟨v168,rfl,ho0,hb⟩;have n0_:=mk_ (Kd.R_lower ho0 (bz_ (qb_ HB)));have n1_:=mk_ (st_ (qb_ HB) hb);clear HB;have HO169:=n0_;have HB:=n1_;clear n0_ n1_;(try clear hb);(try clear hb2);(try clear hk);(try clear hi);(try clear ho0))))
 (try simp only [Act.put,sx_,sy_,sz_])
 go_cut [21] (fun v21 wc => ∃ (kq : Nat) (x21_2 : Bool),v21 = .bool x21_2 ∧ Aside0 (impl_UnpackLink.j0 kq t166 x21_2 = some (r1,r2,r3,r4)) ∧ Aside0 (kq ≤ k) ∧ Aside0 (Kd.R (Kd.int .u8) 5 wc w.heap.size (fun _ => True) v168 t166) ∧ Aside0 (Below w.heap.size w wc))
 case first =>
  have H:=HC3.out
  clear HC3
  by_cases c5 : t167 = true
  ·subst c5
   have H1 : (impl_UnpackLink.j0 k t166 ((t166.length : Int) == 0)) = some (r1,r2,r3,r4):=by rw [if_pos rfl] at H;exact H
   clear H
   have H:=H1
   clear H1
   have H':=mk_ H
   clear H
   obtain ⟨Ao6,co6,eo6⟩:=Kd.R_slice HO169.out
   subst eo6
   go_wp2
   repeat (go_quiet (fail);try go_wp2)
   go_meet
   case rel => exact ⟨_,(((t166.length : Int) == 0)),qf_,H',⟨by first|omega|exact Nat.le_refl _⟩,⟨qr_ HO169⟩,⟨u0_ HB⟩⟩
  ·replace c5:=Bool.eq_false_iff.mpr c5
   subst c5
   have H1 : (impl_UnpackLink.j0 k t166 true) = some (r1,r2,r3,r4):=by rw [if_neg (show ¬ (false = true) by decide)] at H;exact H
   clear H
   have H:=H1
   clear H1
   have H':=mk_ H
   clear H
   go_wp2
   repeat (go_quiet (fail);try go_wp2)
   go_meet
   case rel => exact ⟨_,(true),qf_,H',⟨by first|omega|exact Nat.le_refl _⟩,⟨qr_ HO169⟩,⟨u0_ HB⟩⟩
 case rest =>
  clear HC3
  try clear p2
  try clear c3
  try clear c5
  obtain ⟨kq,x21_2,rfl,HA,HJ2,HO_6,HB⟩:=hcut
  cases kq with
  | zero => exact absurd HA.out (by simp [impl_UnpackLink.j0])
  | succ kj2 =>
   have H:=HA.out
   clear HA
   simp only [impl_UnpackLink.j0] at H
   by_cases c7 : x21_2 = true
   ·subst c7
    have H1 : (some (0,0,([] : List Int),false)) = some (r1,r2,r3,r4):=by rw [if_pos rfl] at H;exact H
    clear H
    have H:=H1
    clear H1
    simp only [Option.some.injEq,Prod.mk.injEq] at H
    obtain ⟨rfl,rfl,rfl,rfl⟩:=H
    go_wp2
    repeat (go_quiet (fail);try go_wp2)
    refine bodyPost_ret (results_list (rs:=[.tmp 2,.tmp 3,.tmp 4,.tmp 5]) rfl (by simp) (.tmp (.tmp (.tmp (.tmp .nil))))) rfl ?_
    exact ⟨_,qe_,by first|exact Kd.R_nil _ _ _ _ _|exact Kd.N_nil _ _ _ _ _|exact Kd.V_nil _ _ _ _ _|exact Kd.Q_nil _ _ _ _ _|exact Kd.S_nil _ _ _ _ _,u0_ HB⟩
   ·replace c7:=Bool.eq_false_iff.mpr c7
    subst c7
    have H1 : (if 0 < (t166.length : Int) then ((impl_within.f (wrap64 (Int.tdiv (wrap64 (rd t166 0)) 16)) 1 2).bind fun t172 => (if t172 = true then (if (wrap64 (Int.tdiv (wrap64 (rd t166 0)) 16)) = 2 then (if (t166.length : Int) > 1 then (some (0,0,([] : List Int),false)) else (if 1 ≤ (t166.length : Int) then ((bytes_Clone.f (t166.drop 1)).bind fun t177 => (some (wrap64 (Int.tdiv (wrap64 (rd t166 0)) 16),Int.tmod (wrap64 (rd t166 0)) 16,t177,true))) else (none))) else (if 1 ≤ (t166.length : Int) then ((bytes_Clone.f (t166.drop 1)).bind fun t184 => (some (wrap64 (Int.tdiv (wrap64 (rd t166 0)) 16),Int.tmod (wrap64 (rd t166 0)) 16,t184,true))) else (none))) else (some (0,0,([] : List Int),false)))) else (none)) = some (r1,r2,r3,r4):=by rw [if_neg (show ¬ (false = true) by decide)] at H;exact H
    clear H
    have H:=H1
    clear H1
    by_cases c8 : 0 < (t166.length : Int)
    ·rw [if_pos c8] at H
     have c8b0 : decide (0 < (t166.length : Int)) = true:=decide_eq_true c8
     have c8b1 : decide (0 < t166.length) = true:=decide_eq_true (by omega)
     clear c8
     replace H:=Option.bind_eq_some_iff.mp H
     obtain ⟨t172,A90,H⟩:=H
     replace H : (if t172 = true then (if (wrap64 (Int.tdiv (wrap64 (rd t166 0)) 16)) = 2 then (if (t166.length : Int) > 1 then (some (0,0,([] : List Int),false)) else (if 1 ≤ (t166.length : Int) then ((bytes_Clone.f (t166.drop 1)).bind fun t177 => (some (wrap64 (Int.tdiv (wrap64 (rd t166 0)) 16),Int.tmod (wrap64 (rd t166 0)) 16,t177,true))) else (none))) else (if 1 ≤ (t166.length : Int) then ((bytes_Clone.f (t166.drop 1)).bind fun t184 => (some (wrap64 (Int.tdiv (wrap64 (rd t166 0)) 16),Int.tmod (wrap64 (rd t166 0)) 16,t184,true))) else (none))) else (some (0,0,([] : List Int),false))) = some (r1,r2,r3,r4):=H
     have A9:=mk_ A90
     clear A90
     by_cases c10 : t172 = true
     ·subst c10
      have H1 : (if (wrap64 (Int.tdiv (wrap64 (rd t166 0)) 16)) = 2 then (if (t166.length : Int) > 1 then (some (0,0,([] : List Int),false)) else (if 1 ≤ (t166.length : Int) then ((bytes_Clone.f (t166.drop 1)).bind fun t177 => (some (wrap64 (Int.tdiv (wrap64 (rd t166 0)) 16),Int.tmod (wrap64 (rd t166 0)) 16,t177,true))) else (none))) else (if 1 ≤ (t166.length : Int) then ((bytes_Clone.f (t166.drop 1)).bind fun t184 => (some (wrap64 (Int.tdiv (wrap64 (rd t166 0)) 16),Int.tmod (wrap64 (rd t166 0)) 16,t184,true))) else (none))) = some (r1,r2,r3,r4):=by rw [if_pos rfl] at H;exact H
      clear H
      have H:=H1
      clear H1
      by_cases c11 : (wrap64 (Int.tdiv (wrap64 (rd t166 0)) 16)) = 2
      ·rw [if_pos c11] at H
       have c11b0 : ((wrap64 (Int.tdiv (wrap64 (rd t166 0)) 16)) == 2) = true:=beq_iff_eq.mpr c11
       have c11b1 : ((wrap64 (Int.tdiv (wrap64 (rd t166 0)) 16)) != 2) = false:=bne_eq_false_iff_eq.mpr c11
       clear c11
       by_cases c12 : (t166.length : Int) > 1
       ·rw [if_pos c12] at H
        have c12b0 : decide (1 < (t166.length : Int)) = true:=decide_eq_true c12
        have c12b1 : decide (1 < t166.length) = true:=decide_eq_true (by omega)
        clear c12
        simp only [Option.some.injEq,Prod.mk.injEq] at H
        obtain ⟨rfl,rfl,rfl,rfl⟩:=H
        obtain ⟨Ao13,co13,eo13⟩:=Kd.R_slice HO_6.out
        subst eo13
        have p170 : 0 ≤ (0 : Int):=(by omega)
        have q170 : 0 < (t166.length : Int):=od_ qa_
        obtain ⟨ad170,e170,hx170_0⟩:=Kd.at_int (rr_ HO_6.out).2.2 0 p170 q170
        cases e170
        have qi170 : (0 < t166.length) = True:=eq_true (by omega)
        (try rw [show ((0 : Int)).toNat = 0 from rfl] at hx170_0)
        (try rw [Addr.add_zero'] at hx170_0)
        replace p170:=eq_true p170
        replace q170:=eq_true q170
        have p171 : 0 ≤ (0 : Int):=(by omega)
        have q171 : 0 < (t166.length : Int):=od_ qa_
        obtain ⟨ad171,e171,hx171_0⟩:=Kd.at_int (rr_ HO_6.out).2.2 0 p171 q171
        obtain rfl : ad170 = ad171:=(by injection e171)
        have qi171 : (0 < t166.length) = True:=eq_true (by omega)
        (try rw [show ((0 : Int)).toNat = 0 from rfl] at hx171_0)
        (try rw [Addr.add_zero'] at hx171_0)
        replace p171:=eq_true p171
        replace q171:=eq_true q171
        go_wp2_with (first|(go_at_call 42;(with_reducible refine (impl_within.calls (wrap64 (Int.tdiv (wrap64 (rd t166 0)) 16)) 1 2 true _ A9.out).mono ?_);rintro e w' ⟨rfl,⟨nd,rfl⟩⟩;(try first|exact ⟨rfl,_,World.drewN_drewN _ _ _⟩|exact ⟨rfl,_,Eq.trans (World.drewN_drewN _ _ _) (congrArg (World.drewN _) (Nat.add_assoc _ _ _))⟩)))
        repeat (go_quiet (first|(go_at_call 42;(with_reducible refine (impl_within.calls (wrap64 (Int.tdiv (wrap64 (rd t166 0)) 16)) 1 2 true _ A9.out).mono ?_);rintro e w' ⟨rfl,⟨nd,rfl⟩⟩;(try first|exact ⟨rfl,_,World.drewN_drewN _ _ _⟩|exact ⟨rfl,_,Eq.trans (World.drewN_drewN _ _ _) (congrArg (World.drewN _) (Nat.add_assoc _ _ _))⟩)));try go_wp2_with (first|(go_at_call 42;(with_reducible refine (impl_within.calls (wrap64 (Int.tdiv (wrap64 (rd t166 0)) 16)) 1 2 true _ A9.out).mono ?_);rintro e w' ⟨rfl,⟨nd,rfl⟩⟩;(try first|exact ⟨rfl,_,World.drewN_drewN _ _ _⟩|exact ⟨rfl,_,Eq.trans (World.drewN_drewN _ _ _) (congrArg (World.drewN _) (Nat.add_assoc _ _ _))⟩))))
        refine bodyPost_ret (results_list (rs:=[.tmp 2,.tmp 3,.tmp 4,.tmp 5]) rfl (by simp) (.tmp (.tmp (.tmp (.tmp .nil))))) rfl ?_
        exact ⟨_,qe_,by first|exact Kd.R_nil _ _ _ _ _|exact Kd.N_nil _ _ _ _ _|exact Kd.V_nil _ _ _ _ _|exact Kd.Q_nil _ _ _ _ _|exact Kd.S_nil _ _ _ _ _,u0_ HB⟩
       ·rw [if_neg c12] at H
        have c12b0 : decide (1 < (t166.length : Int)) = false:=decide_eq_false c12
        have c12b1 : decide (1 < t166.length) = false:=decide_eq_false (by omega)
        clear c12
        by_cases c14 : 1 ≤ (t166.length : Int)
        ·rw [if_pos c14] at H
         have c14b0:=eq_true c14
         have c14b1 : decide (1 ≤ (t166.length : Int)) = true:=decide_eq_true c14
         clear c14
         obtain ⟨y173,hy173⟩ : ∃ y_ : List Int,y_ = (t166.drop 1):=⟨_,rfl⟩
         replace H : ((bytes_Clone.f y173).bind fun t177 => (some (wrap64 (Int.tdiv (wrap64 (rd t166 0)) 16),Int.tmod (wrap64 (rd t166 0)) 16,t177,true))) = some (r1,r2,r3,r4):=by first|(rw [hy173];with_reducible exact H)|(have H2_:=(Option.bind_some _ _).symm.trans H;rw [hy173];with_reducible exact H2_)|(have H2_:=(Option.bind_some _ _).symm.trans H;with_reducible exact H2_)|with_reducible exact H|(rw [hy173];exact H)|exact H
         have Ny173:=mk_ hy173
         clear hy173
         replace H:=Option.bind_eq_some_iff.mp H
         obtain ⟨t177,A150,H⟩:=H
         replace H : (some (wrap64 (Int.tdiv (wrap64 (rd t166 0)) 16),Int.tmod (wrap64 (rd t166 0)) 16,t177,true)) = some (r1,r2,r3,r4):=H
         have A15:=mk_ A150
         clear A150
         simp only [Option.some.injEq,Prod.mk.injEq] at H
         obtain ⟨rfl,rfl,rfl,rfl⟩:=H
         obtain ⟨Ao16,co16,eo16⟩:=Kd.R_slice HO_6.out
         subst eo16
         have p170 : 0 ≤ (0 : Int):=(by omega)
         have q170 : 0 < (t166.length : Int):=od_ qa_
         obtain ⟨ad170,e170,hx170_0⟩:=Kd.at_int (rr_ HO_6.out).2.2 0 p170 q170
         cases e170
         have qi170 : (0 < t166.length) = True:=eq_true (by omega)
         (try rw [show ((0 : Int)).toNat = 0 from rfl] at hx170_0)
         (try rw [Addr.add_zero'] at hx170_0)
         replace p170:=eq_true p170
         replace q170:=eq_true q170
         have p171 : 0 ≤ (0 : Int):=(by omega)
         have q171 : 0 < (t166.length : Int):=od_ qa_
         obtain ⟨ad171,e171,hx171_0⟩:=Kd.at_int (rr_ HO_6.out).2.2 0 p171 q171
         obtain rfl : ad170 = ad171:=(by injection e171)
         have qi171 : (0 < t166.length) = True:=eq_true (by omega)
         (try rw [show ((0 : Int)).toNat = 0 from rfl] at hx171_0)
         (try rw [Addr.add_zero'] at hx171_0)
         replace p171:=eq_true p171
         replace q171:=eq_true q171
         go_wp2_with (first|(go_at_call 42;(with_reducible refine (impl_within.calls (wrap64 (Int.tdiv (wrap64 (rd t166 0)) 16)) 1 2 true _ A9.out).mono ?_);rintro e w' ⟨rfl,⟨nd,rfl⟩⟩;(try first|exact ⟨rfl,_,World.drewN_drewN _ _ _⟩|exact ⟨rfl,_,Eq.trans (World.drewN_drewN _ _ _) (congrArg (World.drewN _) (Nat.add_assoc _ _ _))⟩);have q17 : (1 : Int) ≤ ((t166.length : Int) : Int):=od_ qa_;obtain ⟨i017,hi017,_,hsz17,_⟩:=info_parts info5;have hroom17 : t166.length ≤ co16:=(rr_ HO_6.out).2.1;have hC17 : Kd.C (Kd.int .u8) _ (some ad170) t166.length t166:=(rr_ HO_6.out).2.2;have hcut17:=cut_from (P:=Try.prog) 22 5 .i64 Try.underlying22 hi017 1 hsz17 (some ad170) t166.length co16 1 (by omega) q17;have hr17:=Kd.C_drop (m:=(1 : Int).toNat) (c:=co16) hC17 (by omega) hroom17;obtain ⟨A17,hA17⟩ : ∃ A1,A1 = (if co16 = (1 : Int).toNat then (some ad170) else ((some ad170) : Option Addr).map (·.add ((1 : Int).toNat * 1))):=⟨_,rfl⟩;obtain ⟨c17,hc17⟩ : ∃ c1,c1 = co16 - (1 : Int).toNat:=⟨_,rfl⟩;have hy17 : y173.length = t166.length - (1 : Int).toNat:=(by rw [Ny173.out,List.length_drop] <;> omega);rw [show (t166).drop (1 : Int).toNat = y173 from Ny173.out.symm] at hr17;replace hr17 : Kd.C (Kd.int .u8) _ A17 y173.length y173:=(by rw [hA17];exact hr17);rw [← hy17,← hA17,← hc17] at hcut17;have HR176:=mk_ hr17;have HC176:=mk_ (show y173.length ≤ c17 from by rw [hy17,hc17];exact Nat.sub_le_sub_right hroom17 _);clear hr17 hC17 hroom17 hi017 hsz17 hc17;have KY17:=mk_ hy17;have KA17:=mk_ hA17;clear hy17 hA17;have KL17:=mk_ (show 1 ≤ t166.length from by omega);replace q17:=eq_true q17)|(go_at_call 56;(with_reducible refine (bytes_Clone.calls _ _ y173 t177 _ ?side1 ?side2 A15.out).mono ?_);(case side1 => repeat (first|exact (by repeat (first|(with_reducible exact HR176.out)|(with_reducible refine ca_ ?_ _)|(with_reducible refine cn_ ?_ _)|(with_reducible refine cd_ ?_)|exact HR176.out))|(with_reducible refine ca_ ?_ _)|(with_reducible refine cn_ ?_ _)|(with_reducible refine cd_ ?_)));(case side2 => exact HC176.out);rintro e w18 ⟨v178,rfl,ho0,hb⟩;have n0_:=mk_ (re_ (qr_ HO_6) (Kd.R_base ho0) hb);have n1_:=mk_ (Kd.R_lower (Kd.R_new' ho0 (Kd.R_lt (qr_ HO_6))) (bz_ (qb_ HB)));have n2_:=mk_ (cb_ (by repeat (first|(with_reducible exact HR176.out)|(with_reducible refine ca_ ?_ _)|(with_reducible refine cn_ ?_ _)|(with_reducible refine cd_ ?_)|exact HR176.out)) hb);have n3_:=mk_ (st_ (qb_ HB) hb);clear HO_6 HR176 HB;have HO_6:=n0_;have HO179:=n1_;have HR176:=n2_;have HB:=n3_;clear n0_ n1_ n2_ n3_;(try clear hb);(try clear hb2);(try clear hk);(try clear hi);(try clear ho0)))
         repeat (go_quiet (first|(go_at_call 42;(with_reducible refine (impl_within.calls (wrap64 (Int.tdiv (wrap64 (rd t166 0)) 16)) 1 2 true _ A9.out).mono ?_);rintro e w' ⟨rfl,⟨nd,rfl⟩⟩;(try first|exact ⟨rfl,_,World.drewN_drewN _ _ _⟩|exact ⟨rfl,_,Eq.trans (World.drewN_drewN _ _ _) (congrArg (World.drewN _) (Nat.add_assoc _ _ _))⟩);have q17 : (1 : Int) ≤ ((t166.length : Int) : Int):=od_ qa_;obtain ⟨i017,hi017,_,hsz17,_⟩:=info_parts info5;have hroom17 : t166.length ≤ co16:=(rr_ HO_6.out).2.1;have hC17 : Kd.C (Kd.int .u8) _ (some ad170) t166.length t166:=(rr_ HO_6.out).2.2;have hcut17:=cut_from (P:=Try.prog) 22 5 .i64 Try.underlying22 hi017 1 hsz17 (some ad170) t166.length co16 1 (by omega) q17;have hr17:=Kd.C_drop (m:=(1 : Int).toNat) (c:=co16) hC17 (by omega) hroom17;obtain ⟨A17,hA17⟩ : ∃ A1,A1 = (if co16 = (1 : Int).toNat then (some ad170) else ((some ad170) : Option Addr).map (·.add ((1 : Int).toNat * 1))):=⟨_,rfl⟩;obtain ⟨c17,hc17⟩ : ∃ c1,c1 = co16 - (1 : Int).toNat:=⟨_,rfl⟩;have hy17 : y173.length = t166.length - (1 : Int).toNat:=(by rw [Ny173.out,List.length_drop] <;> omega);rw [show (t166).drop (1 : Int).toNat = y173 from Ny173.out.symm] at hr17;replace hr17 : Kd.C (Kd.int .u8) _ A17 y173.length y173:=(by rw [hA17];exact hr17);rw [← hy17,← hA17,← hc17] at hcut17;have HR176:=mk_ hr17;have HC176:=mk_ (show y173.length ≤ c17 from by rw [hy17,hc17];exact Nat.sub_le_sub_right hroom17 _);clear hr17 hC17 hroom17 hi017 hsz17 hc17;have KY17:=mk_ hy17;have KA17:=mk_ hA17;clear hy17 hA17;have KL17:=mk_ (show 1 ≤ t166.length from by omega);replace q17:=eq_true q17)|(go_at_call 56;(with_reducible refine (bytes_Clone.calls _ _ y173 t177 _ ?side1 ?side2 A15.out).mono ?_);(case side1 => repeat (first|exact (by repeat (first|(with_reducible exact HR176.out)|(with_reducible refine ca_ ?_ _)|(with_reducible refine cn_ ?_ _)|(with_reducible refine cd_ ?_)|exact HR176.out))|(with_reducible refine ca_ ?_ _)|(with_reducible refine cn_ ?_ _)|(with_reducible refine cd_ ?_)));(case side2 => exact HC176.out);rintro e w18 ⟨v178,rfl,ho0,hb⟩;have n0_:=mk_ (re_ (qr_ HO_6) (Kd.R_base ho0) hb);have n1_:=mk_ (Kd.R_lower (Kd.R_new' ho0 (Kd.R_lt (qr_ HO_6))) (bz_ (qb_ HB)));have n2_:=mk_ (cb_ (by repeat (first|(with_reducible exact HR176.out)|(with_reducible refine ca_ ?_ _)|(with_reducible refine cn_ ?_ _)|(with_reducible refine cd_ ?_)|exact HR176.out)) hb);have n3_:=mk_ (st_ (qb_ HB) hb);clear HO_6 HR176 HB;have HO_6:=n0_;have HO179:=n1_;have HR176:=n2_;have HB:=n3_;clear n0_ n1_ n2_ n3_;(try clear hb);(try clear hb2);(try clear hk);(try clear hi);(try clear ho0)));try go_wp2_with (first|(go_at_call 42;(with_reducible refine (impl_within.calls (wrap64 (Int.tdiv (wrap64 (rd t166 0)) 16)) 1 2 true _ A9.out).mono ?_);rintro e w' ⟨rfl,⟨nd,rfl⟩⟩;(try first|exact ⟨rfl,_,World.drewN_drewN _ _ _⟩|exact ⟨rfl,_,Eq.trans (World.drewN_drewN _ _ _) (congrArg (World.drewN _) (Nat.add_assoc _ _ _))⟩);have q17 : (1 : Int) ≤ ((t166.length : Int) : Int):=od_ qa_;obtain ⟨i017,hi017,_,hsz17,_⟩:=info_parts info5;have hroom17 : t166.length ≤ co16:=(rr_ HO_6.out).2.1;have hC17 : Kd.C (Kd.int .u8) _ (some ad170) t166.length t166:=(rr_ HO_6.out).2.2;have hcut17:=cut_from (P:=Try.prog) 22 5 .i64 Try.underlying22 hi017 1 hsz17 (some ad170) t166.length co16 1 (by omega) q17;have hr17:=Kd.C_drop (m:=(1 : Int).toNat) (c:=co16) hC17 (by omega) hroom17;obtain ⟨A17,hA17⟩ : ∃ A1,A1 = (if co16 = (1 : Int).toNat then (some ad170) else ((some ad170) : Option Addr).map (·.add ((1 : Int).toNat * 1))):=⟨_,rfl⟩;obtain ⟨c17,hc17⟩ : ∃ c1,c1 = co16 - (1 : Int).toNat:=⟨_,rfl⟩;have hy17 : y173.length = t166.length - (1 : Int).toNat:=(by rw [Ny173.out,List.length_drop] <;> omega);rw [show (t166).drop (1 : Int).toNat = y173 from Ny173.out.symm] at hr17;replace hr17 : Kd.C (Kd.int .u8) _ A17 y173.length y173:=(by rw [hA17];exact hr17);rw [← hy17,← hA17,← hc17] at hcut17;have HR176:=mk_ hr17;have HC176:=mk_ (show y173.length ≤ c17 from by rw [hy17,hc17];exact Nat.sub_le_sub_right hroom17 _);clear hr17 hC17 hroom17 hi017 hsz17 hc17;have KY17:=mk_ hy17;have KA17:=mk_ hA17;clear hy17 hA17;have KL17:=mk_ (show 1 ≤ t166.length from by omega);replace q17:=eq_true q17)|(go_at_call 56;(with_reducible refine (bytes_Clone.calls _ _ y173 t177 _ ?side1 ?side2 A15.out).mono ?_);(case side1 => repeat (first|exact (by repeat (first|(with_reducible exact HR176.out)|(with_reducible refine ca_ ?_ _)|(with_reducible refine cn_ ?_ _)|(with_reducible refine cd_ ?_)|exact HR176.out))|(with_reducible refine ca_ ?_ _)|(with_reducible refine cn_ ?_ _)|(with_reducible refine cd_ ?_)));(case side2 => exact HC176.out);rintro e w18 ⟨v178,rfl,ho0,hb⟩;have n0_:=mk_ (re_ (qr_ HO_6) (Kd.R_base ho0) hb);have n1_:=mk_ (Kd.R_lower (Kd.R_new' ho0 (Kd.R_lt (qr_ HO_6))) (bz_ (qb_ HB)));have n2_:=mk_ (cb_ (by repeat (first|(with_reducible exact HR176.out)|(with_reducible refine ca_ ?_ _)|(with_reducible refine cn_ ?_ _)|(with_reducible refine cd_ ?_)|exact HR176.out)) hb);have n3_:=mk_ (st_ (qb_ HB) hb);clear HO_6 HR176 HB;have HO_6:=n0_;have HO179:=n1_;have HR176:=n2_;have HB:=n3_;clear n0_ n1_ n2_ n3_;(try clear hb);(try clear hb2);(try clear hk);(try clear hi);(try clear ho0))))
         refine bodyPost_ret (results_list (rs:=[.tmp 2,.tmp 3,.tmp 4,.tmp 5]) rfl (by simp) (.tmp (.tmp (.tmp (.tmp .nil))))) rfl ?_
         exact ⟨_,qe_,by (with_reducible repeat (first|apply ra_|apply rn_|apply rd_));exact rm_ HO179.out (λ_ _=>trivial),u0_ HB⟩
        ·rw [if_neg c14] at H
         exact absurd H (by simp)
      ·rw [if_neg c11] at H
       have c11b0 : ((wrap64 (Int.tdiv (wrap64 (rd t166 0)) 16)) == 2) = false:=beq_eq_false_iff_ne.mpr c11
       have c11b1 : ((wrap64 (Int.tdiv (wrap64 (rd t166 0)) 16)) != 2) = true:=bne_iff_ne.mpr c11
       by_cases c19 : 1 ≤ (t166.length : Int)
       ·rw [if_pos c19] at H
        have c19b0:=eq_true c19
        have c19b1 : decide (1 ≤ (t166.length : Int)) = true:=decide_eq_true c19
        clear c19
        obtain ⟨y180,hy180⟩ : ∃ y_ : List Int,y_ = (t166.drop 1):=⟨_,rfl⟩
        replace H : ((bytes_Clone.f y180).bind fun t184 => (some (wrap64 (Int.tdiv (wrap64 (rd t166 0)) 16),Int.tmod (wrap64 (rd t166 0)) 16,t184,true))) = some (r1,r2,r3,r4):=by first|(rw [hy180];with_reducible exact H)|(have H2_:=(Option.bind_some _ _).symm.trans H;rw [hy180];with_reducible exact H2_)|(have H2_:=(Option.bind_some _ _).symm.trans H;with_reducible exact H2_)|with_reducible exact H|(rw [hy180];exact H)|exact H
        have Ny180:=mk_ hy180
        clear hy180
        replace H:=Option.bind_eq_some_iff.mp H
        obtain ⟨t184,A200,H⟩:=H
        replace H : (some (wrap64 (Int.tdiv (wrap64 (rd t166 0)) 16),Int.tmod (wrap64 (rd t166 0)) 16,t184,true)) = some (r1,r2,r3,r4):=H
        have A20:=mk_ A200
        clear A200
        simp only [Option.some.injEq,Prod.mk.injEq] at H
        obtain ⟨rfl,rfl,rfl,rfl⟩:=H
        obtain ⟨Ao21,co21,eo21⟩:=Kd.R_slice HO_6.out
        subst eo21
        have p170 : 0 ≤ (0 : Int):=(by omega)
        have q170 : 0 < (t166.length : Int):=od_ qa_
        obtain ⟨ad170,e170,hx170_0⟩:=Kd.at_int (rr_ HO_6.out).2.2 0 p170 q170
        cases e170
        have qi170 : (0 < t166.length) = True:=eq_true (by omega)
        (try rw [show ((0 : Int)).toNat = 0 from rfl] at hx170_0)
        (try rw [Addr.add_zero'] at hx170_0)
        replace p170:=eq_true p170
        replace q170:=eq_true q170
        have p171 : 0 ≤ (0 : Int):=(by omega)
        have q171 : 0 < (t166.length : Int):=od_ qa_
        obtain ⟨ad171,e171,hx171_0⟩:=Kd.at_int (rr_ HO_6.out).2.2 0 p171 q171
        obtain rfl : ad170 = ad171:=(by injection e171)
        have qi171 : (0 < t166.length) = True:=eq_true (by omega)
        (try rw [show ((0 : Int)).toNat = 0 from rfl] at hx171_0)
        (try rw [Addr.add_zero'] at hx171_0)
        replace p171:=eq_true p171
        replace q171:=eq_true q171
        go_wp2_with (first|(go_at_call 42;(with_reducible refine (impl_within.calls (wrap64 (Int.tdiv (wrap64 (rd t166 0)) 16)) 1 2 true _ A9.out).mono ?_);rintro e w' ⟨rfl,⟨nd,rfl⟩⟩;(try first|exact ⟨rfl,_,World.drewN_drewN _ _ _⟩|exact ⟨rfl,_,Eq.trans (World.drewN_drewN _ _ _) (congrArg (World.drewN _) (Nat.add_assoc _ _ _))⟩);have q22 : (1 : Int) ≤ ((t166.length : Int) : Int):=od_ qa_;obtain ⟨i022,hi022,_,hsz22,_⟩:=info_parts info5;have hroom22 : t166.length ≤ co21:=(rr_ HO_6.out).2.1;have hC22 : Kd.C (Kd.int .u8) _ (some ad170) t166.length t166:=(rr_ HO_6.out).2.2;have hcut22:=cut_from (P:=Try.prog) 22 5 .i64 Try.underlying22 hi022 1 hsz22 (some ad170) t166.length co21 1 (by omega) q22;have hr22:=Kd.C_drop (m:=(1 : Int).toNat) (c:=co21) hC22 (by omega) hroom22;obtain ⟨A22,hA22⟩ : ∃ A1,A1 = (if co21 = (1 : Int).toNat then (some ad170) else ((some ad170) : Option Addr).map (·.add ((1 : Int).toNat * 1))):=⟨_,rfl⟩;obtain ⟨c22,hc22⟩ : ∃ c1,c1 = co21 - (1 : Int).toNat:=⟨_,rfl⟩;have hy22 : y180.length = t166.length - (1 : Int).toNat:=(by rw [Ny180.out,List.length_drop] <;> omega);rw [show (t166).drop (1 : Int).toNat = y180 from Ny180.out.symm] at hr22;replace hr22 : Kd.C (Kd.int .u8) _ A22 y180.length y180:=(by rw [hA22];exact hr22);rw [← hy22,← hA22,← hc22] at hcut22;have HR183:=mk_ hr22;have HC183:=mk_ (show y180.length ≤ c22 from by rw [hy22,hc22];exact Nat.sub_le_sub_right hroom22 _);clear hr22 hC22 hroom22 hi022 hsz22 hc22;have KY22:=mk_ hy22;have KA22:=mk_ hA22;clear hy22 hA22;have KL22:=mk_ (show 1 ≤ t166.length from by omega);replace q22:=eq_true q22)|(go_at_call 56;(with_reducible refine (bytes_Clone.calls _ _ y180 t184 _ ?side1 ?side2 A20.out).mono ?_);(case side1 => repeat (first|exact (by repeat (first|(with_reducible exact HR183.out)|(with_reducible refine ca_ ?_ _)|(with_reducible refine cn_ ?_ _)|(with_reducible refine cd_ ?_)|exact HR183.out))|(with_reducible refine ca_ ?_ _)|(with_reducible refine cn_ ?_ _)|(with_reducible refine cd_ ?_)));(case side2 => exact HC183.out);rintro e w23 ⟨v185,rfl,ho0,hb⟩;have n0_:=mk_ (re_ (qr_ HO_6) (Kd.R_base ho0) hb);have n1_:=mk_ (Kd.R_lower (Kd.R_new' ho0 (Kd.R_lt (qr_ HO_6))) (bz_ (qb_ HB)));have n2_:=mk_ (cb_ (by repeat (first|(with_reducible exact HR183.out)|(with_reducible refine ca_ ?_ _)|(with_reducible refine cn_ ?_ _)|(with_reducible refine cd_ ?_)|exact HR183.out)) hb);have n3_:=mk_ (st_ (qb_ HB) hb);clear HO_6 HR183 HB;have HO_6:=n0_;have HO186:=n1_;have HR183:=n2_;have HB:=n3_;clear n0_ n1_ n2_ n3_;(try clear hb);(try clear hb2);(try clear hk);(try clear hi);(try clear ho0)))
        repeat (go_quiet (first|(go_at_call 42;(with_reducible refine (impl_within.calls (wrap64 (Int.tdiv (wrap64 (rd t166 0)) 16)) 1 2 true _ A9.out).mono ?_);rintro e w' ⟨rfl,⟨nd,rfl⟩⟩;(try first|exact ⟨rfl,_,World.drewN_drewN _ _ _⟩|exact ⟨rfl,_,Eq.trans (World.drewN_drewN _ _ _) (congrArg (World.drewN _) (Nat.add_assoc _ _ _))⟩);have q22 : (1 : Int) ≤ ((t166.length : Int) : Int):=od_ qa_;obtain ⟨i022,hi022,_,hsz22,_⟩:=info_parts info5;have hroom22 : t166.length ≤ co21:=(rr_ HO_6.out).2.1;have hC22 : Kd.C (Kd.int .u8) _ (some ad170) t166.length t166:=(rr_ HO_6.out).2.2;have hcut22:=cut_from (P:=Try.prog) 22 5 .i64 Try.underlying22 hi022 1 hsz22 (some ad170) t166.length co21 1 (by omega) q22;have hr22:=Kd.C_drop (m:=(1 : Int).toNat) (c:=co21) hC22 (by omega) hroom22;obtain ⟨A22,hA22⟩ : ∃ A1,A1 = (if co21 = (1 : Int).toNat then (some ad170) else ((some ad170) : Option Addr).map (·.add ((1 : Int).toNat * 1))):=⟨_,rfl⟩;obtain ⟨c22,hc22⟩ : ∃ c1,c1 = co21 - (1 : Int).toNat:=⟨_,rfl⟩;have hy22 : y180.length = t166.length - (1 : Int).toNat:=(by rw [Ny180.out,List.length_drop] <;> omega);rw [show (t166).drop (1 : Int).toNat = y180 from Ny180.out.symm] at hr22;replace hr22 : Kd.C (Kd.int .u8) _ A22 y180.length y180:=(by rw [hA22];exact hr22);rw [← hy22,← hA22,← hc22] at hcut22;have HR183:=mk_ hr22;have HC183:=mk_ (show y180.length ≤ c22 from by rw [hy22,hc22];exact Nat.sub_le_sub_right hroom22 _);clear hr22 hC22 hroom22 hi022 hsz22 hc22;have KY22:=mk_ hy22;have KA22:=mk_ hA22;clear hy22 hA22;have KL22:=mk_ (show 1 ≤ t166.length from by omega);replace q22:=eq_true q22)|(go_at_call 56;(with_reducible refine (bytes_Clone.calls _ _ y180 t184 _ ?side1 ?side2 A20.out).mono ?_);(case side1 => repeat (first|exact (by repeat (first|(with_reducible exact HR183.out)|(with_reducible refine ca_ ?_ _)|(with_reducible refine cn_ ?_ _)|(with_reducible refine cd_ ?_)|exact HR183.out))|(with_reducible refine ca_ ?_ _)|(with_reducible refine cn_ ?_ _)|(with_reducible refine cd_ ?_)));(case side2 => exact HC183.out);rintro e w23 ⟨v185,rfl,ho0,hb⟩;have n0_:=mk_ (re_ (qr_ HO_6) (Kd.R_base ho0) hb);have n1_:=mk_ (Kd.R_lower (Kd.R_new' ho0 (Kd.R_lt (qr_ HO_6))) (bz_ (qb_ HB)));have n2_:=mk_ (cb_ (by repeat (first|(with_reducible exact HR183.out)|(with_reducible refine ca_ ?_ _)|(with_reducible refine cn_ ?_ _)|(with_reducible refine cd_ ?_)|exact HR183.out)) hb);have n3_:=mk_ (st_ (qb_ HB) hb);clear HO_6 HR183 HB;have HO_6:=n0_;have HO186:=n1_;have HR183:=n2_;have HB:=n3_;clear n0_ n1_ n2_ n3_;(try clear hb);(try clear hb2);(try clear hk);(try clear hi);(try clear ho0)));try go_wp2_with (first|(go_at_call 42;(with_reducible refine (impl_within.calls (wrap64 (Int.tdiv (wrap64 (rd t166 0)) 16)) 1 2 true _ A9.out).mono ?_);rintro e w' ⟨rfl,⟨nd,rfl⟩⟩;(try first|exact ⟨rfl,_,World.drewN_drewN _ _ _⟩|exact ⟨rfl,_,Eq.trans (World.drewN_drewN _ _ _) (congrArg (World.drewN _) (Nat.add_assoc _ _ _))⟩);have q22 : (1 : Int) ≤ ((t166.length : Int) : Int):=od_ qa_;obtain ⟨i022,hi022,_,hsz22,_⟩:=info_parts info5;have hroom22 : t166.length ≤ co21:=(rr_ HO_6.out).2.1;have hC22 : Kd.C (Kd.int .u8) _ (some ad170) t166.length t166:=(rr_ HO_6.out).2.2;have hcut22:=cut_from (P:=Try.prog) 22 5 .i64 Try.underlying22 hi022 1 hsz22 (some ad170) t166.length co21 1 (by omega) q22;have hr22:=Kd.C_drop (m:=(1 : Int).toNat) (c:=co21) hC22 (by omega) hroom22;obtain ⟨A22,hA22⟩ : ∃ A1,A1 = (if co21 = (1 : Int).toNat then (some ad170) else ((some ad170) : Option Addr).map (·.add ((1 : Int).toNat * 1))):=⟨_,rfl⟩;obtain ⟨c22,hc22⟩ : ∃ c1,c1 = co21 - (1 : Int).toNat:=⟨_,rfl⟩;have hy22 : y180.length = t166.length - (1 : Int).toNat:=(by rw [Ny180.out,List.length_drop] <;> omega);rw [show (t166).drop (1 : Int).toNat = y180 from Ny180.out.symm] at hr22;replace hr22 : Kd.C (Kd.int .u8) _ A22 y180.length y180:=(by rw [hA22];exact hr22);rw [← hy22,← hA22,← hc22] at hcut22;have HR183:=mk_ hr22;have HC183:=mk_ (show y180.length ≤ c22 from by rw [hy22,hc22];exact Nat.sub_le_sub_right hroom22 _);clear hr22 hC22 hroom22 hi022 hsz22 hc22;have KY22:=mk_ hy22;have KA22:=mk_ hA22;clear hy22 hA22;have KL22:=mk_ (show 1 ≤ t166.length from by omega);replace q22:=eq_true q22)|(go_at_call 56;(with_reducible refine (bytes_Clone.calls _ _ y180 t184 _ ?side1 ?side2 A20.out).mono ?_);(case side1 => repeat (first|exact (by repeat (first|(with_reducible exact HR183.out)|(with_reducible refine ca_ ?_ _)|(with_reducible refine cn_ ?_ _)|(with_reducible refine cd_ ?_)|exact HR183.out))|(with_reducible refine ca_ ?_ _)|(with_reducible refine cn_ ?_ _)|(with_reducible refine cd_ ?_)));(case side2 => exact HC183.out);rintro e w23 ⟨v185,rfl,ho0,hb⟩;have n0_:=mk_ (re_ (qr_ HO_6) (Kd.R_base ho0) hb);have n1_:=mk_ (Kd.R_lower (Kd.R_new' ho0 (Kd.R_lt (qr_ HO_6))) (bz_ (qb_ HB)));have n2_:=mk_ (cb_ (by repeat (first|(with_reducible exact HR183.out)|(with_reducible refine ca_ ?_ _)|(with_reducible refine cn_ ?_ _)|(with_reducible refine cd_ ?_)|exact HR183.out)) hb);have n3_:=mk_ (st_ (qb_ HB) hb);clear HO_6 HR183 HB;have HO_6:=n0_;have HO186:=n1_;have HR183:=n2_;have HB:=n3_;clear n0_ n1_ n2_ n3_;(try clear hb);(try clear hb2);(try clear hk);(try clear hi);(try clear ho0))))
        refine bodyPost_ret (results_list (rs:=[.tmp 2,.tmp 3,.tmp 4,.tmp 5]) rfl (by simp) (.tmp (.tmp (.tmp (.tmp .nil))))) rfl ?_
        exact ⟨_,qe_,by (with_reducible repeat (first|apply ra_|apply rn_|apply rd_));exact rm_ HO186.out (λ_ _=>trivial),u0_ HB⟩
       ·rw [if_neg c19] at H
        exact absurd H (by simp)
     ·replace c10:=Bool.eq_false_iff.mpr c10
      subst c10
      have H1 : (some (0,0,([] : List Int),false)) = some (r1,r2,r3,r4):=by rw [if_neg (show ¬ (false = true) by decide)] at H;exact H
      clear H
      have H:=H1
      clear H1
      simp only [Option.some.injEq,Prod.mk.injEq] at H
      obtain ⟨rfl,rfl,rfl,rfl⟩:=H
      obtain ⟨Ao24,co24,eo24⟩:=Kd.R_slice HO_6.out
      subst eo24
      have p170 : 0 ≤ (0 : Int):=(by omega)
      have q170 : 0 < (t166.length : Int):=od_ qa_
      obtain ⟨ad170,e170,hx170_0⟩:=Kd.at_int (rr_ HO_6.out).2.2 0 p170 q170
      cases e170
      have qi170 : (0 < t166.length) = True:=eq_true (by omega)
      (try rw [show ((0 : Int)).toNat = 0 from rfl] at hx170_0)
      (try rw [Addr.add_zero'] at hx170_0)
      replace p170:=eq_true p170
      replace q170:=eq_true q170
      have p171 : 0 ≤ (0 : Int):=(by omega)
      have q171 : 0 < (t166.length : Int):=od_ qa_
      obtain ⟨ad171,e171,hx171_0⟩:=Kd.at_int (rr_ HO_6.out).2.2 0 p171 q171
      obtain rfl : ad170 = ad171:=(by injection e171)
      have qi171 : (0 < t166.length) = True:=eq_true (by omega)
      (try rw [show ((0 : Int)).toNat = 0 from rfl] at hx171_0)
      (try rw [Addr.add_zero'] at hx171_0)
      replace p171:=eq_true p171
      replace q171:=eq_true q171
      go_wp2_with (first|(go_at_call 42;(with_reducible refine (impl_within.calls (wrap64 (Int.tdiv (wrap64 (rd t166 0)) 16)) 1 2 false _ A9.out).mono ?_);rintro e w' ⟨rfl,⟨nd,rfl⟩⟩;(try first|exact ⟨rfl,_,World.drewN_drewN _ _ _⟩|exact ⟨rfl,_,Eq.trans (World.drewN_drewN _ _ _) (congrArg (World.drewN _) (Nat.add_assoc _ _ _))⟩)))
      repeat (go_quiet (first|(go_at_call 42;(with_reducible refine (impl_within.calls (wrap64 (Int.tdiv (wrap64 (rd t166 0)) 16)) 1 2 false _ A9.out).mono ?_);rintro e w' ⟨rfl,⟨nd,rfl⟩⟩;(try first|exact ⟨rfl,_,World.drewN_drewN _ _ _⟩|exact ⟨rfl,_,Eq.trans (World.drewN_drewN _ _ _) (congrArg (World.drewN _) (Nat.add_assoc _ _ _))⟩)));try go_wp2_with (first|(go_at_call 42;(with_reducible refine (impl_within.calls (wrap64 (Int.tdiv (wrap64 (rd t166 0)) 16)) 1 2 false _ A9.out).mono ?_);rintro e w' ⟨rfl,⟨nd,rfl⟩⟩;(try first|exact ⟨rfl,_,World.drewN_drewN _ _ _⟩|exact ⟨rfl,_,Eq.trans (World.drewN_drewN _ _ _) (congrArg (World.drewN _) (Nat.add_assoc _ _ _))⟩))))
      refine bodyPost_ret (results_list (rs:=[.tmp 2,.tmp 3,.tmp 4,.tmp 5]) rfl (by simp) (.tmp (.tmp (.tmp (.tmp .nil))))) rfl ?_
      exact ⟨_,qe_,by first|exact Kd.R_nil _ _ _ _ _|exact Kd.N_nil _ _ _ _ _|exact Kd.V_nil _ _ _ _ _|exact Kd.Q_nil _ _ _ _ _|exact Kd.S_nil _ _ _ _ _,u0_ HB⟩
    ·rw [if_neg c8] at H
     exact absurd H (by simp)

-- LIB crc
theorem bx_nat (A B : Nat) (h1 : A < 4611686018427387904) (h2 : B < 4611686018427387904) : Go.bits .xor .i64 (A : Int) (B : Int) = ((A ^^^ B : Nat) : Int):=by
  have hx : A ^^^ B < 2 ^ 62:=Nat.xor_lt_two_pow (by omega) (by omega)
  have eA : (BitVec.ofInt 64 (A : Int)).toNat = A:=by rw [BitVec.ofInt_natCast,BitVec.toNat_ofNat];exact Nat.mod_eq_of_lt (by omega)
  have eB : (BitVec.ofInt 64 (B : Int)).toNat = B:=by rw [BitVec.ofInt_natCast,BitVec.toNat_ofNat];exact Nat.mod_eq_of_lt (by omega)
  show IntKind.i64.wrap ((BitVec.ofInt 64 (A : Int) ^^^ BitVec.ofInt 64 (B : Int)).toNat : Int) = _
  rw [BitVec.toNat_xor,eA,eB,IntKind.wrap_i64]
  omega
theorem ba_nat (A B : Nat) (h1 : A < 4611686018427387904) (h2 : B < 4611686018427387904) : Go.bits .and .i64 (A : Int) (B : Int) = ((A &&& B : Nat) : Int):=by
  have hx : A &&& B < 2 ^ 62:=Nat.and_lt_two_pow _ (by omega)
  have eA : (BitVec.ofInt 64 (A : Int)).toNat = A:=by rw [BitVec.ofInt_natCast,BitVec.toNat_ofNat];exact Nat.mod_eq_of_lt (by omega)
  have eB : (BitVec.ofInt 64 (B : Int)).toNat = B:=by rw [BitVec.ofInt_natCast,BitVec.toNat_ofNat];exact Nat.mod_eq_of_lt (by omega)
  show IntKind.i64.wrap ((BitVec.ofInt 64 (A : Int) &&& BitVec.ofInt 64 (B : Int)).toNat : Int) = _
  rw [BitVec.toNat_and,eA,eB,IntKind.wrap_i64]
  omega
theorem bo_nat (A B : Nat) (h1 : A < 4611686018427387904) (h2 : B < 4611686018427387904) : Go.bits .or .i64 (A : Int) (B : Int) = ((A ||| B : Nat) : Int):=by
  have hx : A ||| B < 2 ^ 62:=Nat.or_lt_two_pow (by omega) (by omega)
  have eA : (BitVec.ofInt 64 (A : Int)).toNat = A:=by rw [BitVec.ofInt_natCast,BitVec.toNat_ofNat];exact Nat.mod_eq_of_lt (by omega)
  have eB : (BitVec.ofInt 64 (B : Int)).toNat = B:=by rw [BitVec.ofInt_natCast,BitVec.toNat_ofNat];exact Nat.mod_eq_of_lt (by omega)
  show IntKind.i64.wrap ((BitVec.ofInt 64 (A : Int) ||| BitVec.ofInt 64 (B : Int)).toNat : Int) = _
  rw [BitVec.toNat_or,eA,eB,IntKind.wrap_i64]
  omega
theorem bx_word {a b : Int} (h1 : 0 ≤ a) (h2 : a < 65536) (h3 : 0 ≤ b) (h4 : b < 65536) : 0 ≤ Go.bits .xor .i64 a b ∧ Go.bits .xor .i64 a b < 65536:=by
  obtain ⟨A,rfl⟩:=Int.eq_ofNat_of_zero_le h1
  obtain ⟨B,rfl⟩:=Int.eq_ofNat_of_zero_le h3
  rw [bx_nat A B (by omega) (by omega)]
  have : A ^^^ B < 2 ^ 16:=Nat.xor_lt_two_pow (by omega) (by omega)
  omega
theorem ba_word {a : Int} (h1 : 0 ≤ a) (h2 : a < 4611686018427387904) : 0 ≤ Go.bits .and .i64 a 65535 ∧ Go.bits .and .i64 a 65535 < 65536:=by
  obtain ⟨A,rfl⟩:=Int.eq_ofNat_of_zero_le h1
  rw [show (65535 : Int) = ((65535 : Nat) : Int) from rfl,ba_nat A 65535 (by omega) (by omega)]
  have : A &&& 65535 < 2 ^ 16:=Nat.and_lt_two_pow _ (by omega)
  omega
theorem bo_two {a b : Int} (h1 : 0 ≤ a) (h2 : a < 256) (h3 : 0 ≤ b) (h4 : b < 256) : Go.bits .or .i64 (a * 256) b = a * 256 + b:=by
  obtain ⟨A,rfl⟩:=Int.eq_ofNat_of_zero_le h1
  obtain ⟨B,rfl⟩:=Int.eq_ofNat_of_zero_le h3
  rw [show ((A : Int) * 256) = ((A * 256 : Nat) : Int) from by omega,bo_nat (A * 256) B (by omega) (by omega)]
  have:=Nat.shiftLeft_add_eq_or_of_lt (b:=B) (i:=8) (by omega) A
  rw [Nat.shiftLeft_eq,show (2 : Nat) ^ 8 = 256 from rfl] at this
  rw [← this]
  omega
theorem rd_memL {b : List Int} {i : Int} (h0 : 0 ≤ i) (h1 : i < b.length) : rd b i ∈ b:=by
  obtain ⟨j,rfl⟩:=Int.eq_ofNat_of_zero_le h0
  rw [rd_get b j (by omega)]
  exact List.getElem_mem _
/-- A row of small numbers. -/
def BytesL (l : List Int) : Prop:=∀ x ∈ l,0 ≤ x ∧ x < 256
theorem stepI_l0 (d : Nat) : ∀ (j : Int) (c : Int),0 ≤ j → j + d = 8 → 0 ≤ c → c < 65536 → ∃ r,(0 ≤ r ∧ r < 65536) ∧ ∀ k,d < k → impl_CrcStep.l0 k c j = some r:=by
  induction d with
  | zero =>
    intro j c _ hj h0 h1
    refine ⟨c,⟨h0,h1⟩,fun k hk => ?_⟩
    obtain ⟨k,rfl⟩ : ∃ m,k = m + 1:=⟨k - 1,by omega⟩
    simp only [impl_CrcStep.l0]
    rw [if_neg (by omega)]
  | succ d ih =>
    intro j c hj0 hj h0 h1
    have hw : wrap64 (c * 2) = c * 2:=wrap_eq (by omega) (by omega)
    have hw1 : wrap64 (j + 1) = j + 1:=wrap_eq (by omega) (by omega)
    obtain ⟨ha0,ha1⟩:=ba_word (a:=c * 2) (by omega) (by omega)
    by_cases ht : c / 32768 = 1
    · obtain ⟨hx0,hx1⟩:=bx_word ha0 ha1 (b:=4129) (by omega) (by omega)
      obtain ⟨r,hr,hk⟩:=ih (j + 1) _ (by omega) (by omega) hx0 hx1
      refine ⟨r,hr,fun k hkk => ?_⟩
      obtain ⟨k,rfl⟩ : ∃ m,k = m + 1:=⟨k - 1,by omega⟩
      simp only [impl_CrcStep.l0]
      rw [if_pos (by omega),if_pos ht,hw,hw1]
      exact hk k (by omega)
    · obtain ⟨r,hr,hk⟩:=ih (j + 1) _ (by omega) (by omega) ha0 ha1
      refine ⟨r,hr,fun k hkk => ?_⟩
      obtain ⟨k,rfl⟩ : ∃ m,k = m + 1:=⟨k - 1,by omega⟩
      simp only [impl_CrcStep.l0]
      rw [if_pos (by omega),if_neg ht,hw,hw1]
      exact hk k (by omega)
theorem stepI (c b : Int) (h0 : 0 ≤ c) (h1 : c < 65536) (h2 : 0 ≤ b) (h3 : b < 256) : ∃ r,(0 ≤ r ∧ r < 65536) ∧ ∀ k,8 < k → impl_CrcStep.f k c b = some r:=by
  have hw : wrap64 b = b:=wrap_eq (by omega) (by omega)
  have hw2 : wrap64 (b * 256) = b * 256:=wrap_eq (by omega) (by omega)
  obtain ⟨hx0,hx1⟩:=bx_word h0 h1 (b:=b * 256) (by omega) (by omega)
  obtain ⟨r,hr,hk⟩:=stepI_l0 8 0 _ (by omega) (by omega) hx0 hx1
  refine ⟨r,hr,fun k hkk => ?_⟩
  unfold impl_CrcStep.f impl_within.f
  rw [hw,hw2]
  rw [if_pos h0,Option.bind_some,if_pos (by simp <;> omega)]
  exact hk k hkk
theorem crcI_l0 (l : List Int) (hb : BytesL l) (d : Nat) : ∀ (i : Nat) (c : Int),i + d = l.length → l.length ≤ 1000000 → 0 ≤ c → c < 65536 → ∃ r,(0 ≤ r ∧ r < 65536) ∧ ∀ k,d + 9 < k → impl_CrcOf.l0 k c l (l.length : Int) (i : Int) = some r:=by
  induction d with
  | zero =>
    intro i c hi hl h0 h1
    refine ⟨c,⟨h0,h1⟩,fun k hk => ?_⟩
    obtain ⟨k,rfl⟩ : ∃ m,k = m + 1:=⟨k - 1,by omega⟩
    simp only [impl_CrcOf.l0]
    rw [if_neg (by omega)]
  | succ d ih =>
    intro i c hi hl h0 h1
    have hx:=hb (rd l (i : Int)) (rd_memL (by omega) (by omega))
    obtain ⟨s,⟨hs0,hs1⟩,hs⟩:=stepI c (rd l (i : Int)) h0 h1 hx.1 hx.2
    obtain ⟨r,hr,hk⟩:=ih (i + 1) s (by omega) hl hs0 hs1
    refine ⟨r,hr,fun k hkk => ?_⟩
    obtain ⟨k,rfl⟩ : ∃ m,k = m + 1:=⟨k - 1,by omega⟩
    have hw1 : wrap64 ((i : Int) + 1) = ((i + 1 : Nat) : Int):=by rw [wrap_eq (by omega) (by omega)];rfl
    simp only [impl_CrcOf.l0]
    rw [if_pos (by omega),if_pos (by omega),if_pos (by omega),hs k (by omega),Option.bind_some,hw1]
    exact hk k (by omega)
theorem crcI_ex (l : List Int) (hb : BytesL l) (hl : l.length ≤ 600) : ∃ r,(0 ≤ r ∧ r < 65536) ∧ ∀ k,1000 < k → impl_CrcOf.f k l = some r:=by
  obtain ⟨r,hr,hk⟩:=crcI_l0 l hb l.length 0 65535 (by omega) (by omega) (by omega) (by omega)
  refine ⟨r,hr,fun k hkk => ?_⟩
  unfold impl_CrcOf.f impl_isData.f
  rw [Option.bind_some,if_pos (by simp <;> omega)]
  exact hk k (by omega)
/-- The check of bytes. -/
def crcI (l : List Int) : Int:=(impl_CrcOf.f 1001 l).getD 0
theorem crcI_eq (l : List Int) (hb : BytesL l) (hl : l.length ≤ 600) : (0 ≤ crcI l ∧ crcI l < 65536) ∧ ∀ k,1000 < k → impl_CrcOf.f k l = some (crcI l):=by
  obtain ⟨r,hr,hk⟩:=crcI_ex l hb hl
  have e : crcI l = r:=by unfold crcI;rw [hk 1001 (by omega)];rfl
  rw [e]
  exact ⟨hr,hk⟩

-- LIB linkpack
/-- A packet of a link with its check behind. -/
def pkt (cf : List Int → Int) (kind s : Int) (b : List Int) : List Int:=((16 * kind + s) :: b) ++ [cf ((16 * kind + s) :: b) / 256,cf ((16 * kind + s) :: b) % 256]
theorem bytesL_cons {x : Int} {b : List Int} (h0 : 0 ≤ x) (h1 : x < 256) (hb : BytesL b) : BytesL (x :: b):=by
  intro y hy
  rcases List.mem_cons.1 hy with rfl | hy
  · exact ⟨h0,h1⟩
  · exact hb y hy
theorem rd_app0 (h : List Int) (x y : Int) : rd (h ++ [x,y]) (h.length : Int) = x:=by simp [rd,List.getD_eq_getElem?_getD]
theorem rd_app1 (h : List Int) (x y : Int) : rd (h ++ [x,y]) ((h.length : Int) + 1) = y:=by
  rw [show (h.length : Int) + 1 = ((h.length + 1 : Nat) : Int) from rfl]
  simp [rd,List.getD_eq_getElem?_getD]
theorem flip_byte : ∀ n : Fin 48,Go.bits .xor .u8 (n.val : Int) 128 = (n.val : Int) + 128:=by decide +kernel
theorem flip_lt {x : Int} (h0 : 0 ≤ x) (h1 : x < 48) : Go.bits .xor .u8 x 128 = x + 128:=by
  have:=flip_byte ⟨x.toNat,by omega⟩
  rwa [show ((x.toNat : Nat) : Int) = x from by omega] at this
theorem flip0_cons (x : Int) (b : List Int) : flip0 (x :: b) = Go.bits .xor .u8 x 128 :: b:=rfl
theorem pkt_len (cf : List Int → Int) (kind s : Int) (b : List Int) : (pkt cf kind s b).length = b.length + 3:=by unfold pkt;simp
theorem addI (h : List Int) (hb : BytesL h) (hl : h.length ≤ 598) (k : Nat) (hk : 1000 < k) : impl_AddCrc.f k h = some (h ++ [crcI h / 256,crcI h % 256],true):=by
  obtain ⟨⟨c0,c1⟩,hc⟩:=crcI_eq h hb (by omega)
  unfold impl_AddCrc.f
  rw [wrap_eq (by omega) (by omega),if_neg (by omega),hc k hk]
  generalize crcI h = c at c0 c1
  simp only [Option.bind_some,List.nil_append]
  rw [if_pos (by simp <;> omega),if_pos (by simp <;> omega),show c / 256 % 256 = c / 256 from by omega]
theorem cutI (h : List Int) (hb : BytesL h) (hl : h.length ≤ 598) (x y : Int) (hx : 0 ≤ x ∧ x < 256) (hy : 0 ≤ y ∧ y < 256) (k : Nat) (hk : 1000 < k) : impl_CutCrc.f k (h ++ [x,y]) = if crcI h = x * 256 + y then some (h,true) else some ([],false):=by
  obtain ⟨_,hc⟩:=crcI_eq h hb (by omega)
  have hle : ((h ++ [x,y]).length : Int) = (h.length : Int) + 2:=by simp
  have hw1 : wrap64 ((h.length : Int) + 2 - 2) = (h.length : Int):=by rw [show (h.length : Int) + 2 - 2 = (h.length : Int) from by omega];exact wrap_eq (by omega) (by omega)
  have hw2 : wrap64 ((h.length : Int) + 1) = (h.length : Int) + 1:=wrap_eq (by omega) (by omega)
  have ht : (h ++ [x,y]).take (h.length : Int).toNat = h:=by rw [Int.toNat_natCast];simp
  have wx : wrap64 x = x:=wrap_eq (by omega) (by omega)
  have wy : wrap64 y = y:=wrap_eq (by omega) (by omega)
  have wx2 : wrap64 (x * 256) = x * 256:=wrap_eq (by omega) (by omega)
  unfold impl_CutCrc.f impl_isData.f
  rw [hle,Option.bind_some,if_pos (by simp <;> omega),hw1,if_neg (by omega),if_pos (by omega),if_pos (by omega),ht,hc k hk,Option.bind_some,if_pos (by omega),hw2,if_pos (by omega),if_pos (by omega),rd_app0,rd_app1,wx,wy,wx2,bo_two hx.1 hx.2 hy.1 hy.2]
  by_cases he : crcI h = x * 256 + y
  · rw [if_pos he,if_pos he,Option.bind_some,if_pos (by simp <;> omega)];try rfl
  · rw [if_neg he,if_neg he]
theorem packI (kind s : Int) (b : List Int) (h1 : 1 ≤ kind) (h2 : kind ≤ 2) (h3 : 0 ≤ s) (h4 : s < 16) (hb : BytesL b) (hl : b.length ≤ 597) (hk2 : kind = 2 → b = []) (k : Nat) (hk : 1000 < k) : impl_PackLink.f k kind s b = some (pkt crcI kind s b,true):=by
  have hw1 : wrap64 (16 * kind) = 16 * kind:=wrap_eq (by omega) (by omega)
  have hw2 : wrap64 (16 * kind + s) = 16 * kind + s:=wrap_eq (by omega) (by omega)
  have ha:=addI ((16 * kind + s) :: b) (bytesL_cons (by omega) (by omega) hb) (by simp <;> omega) k hk
  have hm : (16 * kind + s) % 256 = 16 * kind + s:=by omega
  unfold impl_PackLink.f impl_within.f
  rw [hw1,hw2,hm]
  rw [if_pos h1,Option.bind_some,if_pos (by simp <;> omega),if_pos h3,Option.bind_some,if_pos (by simp <;> omega)]
  by_cases e2 : kind = 2
  · rw [if_pos e2,if_neg (by rw [hk2 e2];simp),Option.bind_some,if_pos (by simp <;> omega),List.singleton_append,ha];rfl
  · rw [if_neg e2,Option.bind_some,if_pos (by simp <;> omega),List.singleton_append,ha];rfl
theorem unpackI_ok (kind s : Int) (b : List Int) (h1 : 1 ≤ kind) (h2 : kind ≤ 2) (h3 : 0 ≤ s) (h4 : s < 16) (hb : BytesL b) (hl : b.length ≤ 597) (hk2 : kind = 2 → b = []) (k : Nat) (hk : 1000 < k) : impl_UnpackLink.f k (pkt crcI kind s b) = some (kind,s,b,true):=by
  have hB:=bytesL_cons (x:=16 * kind + s) (by omega) (by omega) hb
  obtain ⟨⟨c0,c1⟩,_⟩:=crcI_eq _ hB (by simp <;> omega)
  have hcut:=cutI ((16 * kind + s) :: b) hB (by simp <;> omega) (crcI ((16 * kind + s) :: b) / 256) (crcI ((16 * kind + s) :: b) % 256) (by omega) (by omega) k hk
  rw [if_pos (by omega)] at hcut
  unfold impl_UnpackLink.f pkt
  rw [hcut,Option.bind_some,if_pos rfl]
  obtain ⟨k,rfl⟩ : ∃ m,k = m + 1:=⟨k - 1,by omega⟩
  simp only [impl_UnpackLink.j0]
  have hr : rd ((16 * kind + s) :: b) 0 = 16 * kind + s:=rfl
  have hw : wrap64 (16 * kind + s) = 16 * kind + s:=wrap_eq (by omega) (by omega)
  have hd : wrap64 (Int.tdiv (16 * kind + s) 16) = kind:=by rw [Int.tdiv_eq_ediv_of_nonneg (by omega),wrap_eq (by omega) (by omega)];omega
  have hm : Int.tmod (16 * kind + s) 16 = s:=by rw [Int.tmod_eq_emod_of_nonneg (by omega)];omega
  rw [if_neg (by simp <;> omega),if_pos (by simp <;> omega),hr,hw,hd,hm]
  unfold impl_within.f
  rw [if_pos h1,Option.bind_some,if_pos (by simp <;> omega)]
  unfold bytes_Clone.f
  by_cases e2 : kind = 2
  · rw [if_pos e2,hk2 e2,if_neg (by simp),if_pos (by simp),if_pos (by simp),Option.bind_some];simp
  · rw [if_neg e2,if_pos (by simp <;> omega),if_pos (by simp <;> omega),Option.bind_some];simp
theorem unpackI_bad (kind s : Int) (b : List Int) (h1 : 1 ≤ kind) (h2 : kind ≤ 2) (h3 : 0 ≤ s) (h4 : s < 16) (hb : BytesL b) (hl : b.length ≤ 597) (k : Nat) (hk : 1000 < k) : impl_UnpackLink.f k (flip0 (pkt crcI kind s b)) = some (0,0,[],false):=by
  have hB:=bytesL_cons (x:=16 * kind + s) (by omega) (by omega) hb
  have hB2:=bytesL_cons (x:=16 * kind + s + 128) (by omega) (by omega) hb
  obtain ⟨⟨c0,c1⟩,_⟩:=crcI_eq _ hB (by simp <;> omega)
  have hcut:=cutI ((16 * kind + s + 128) :: b) hB2 (by simp <;> omega) (crcI ((16 * kind + s) :: b) / 256) (crcI ((16 * kind + s) :: b) % 256) (by omega) (by omega) k hk
  unfold impl_UnpackLink.f pkt
  rw [List.cons_append,flip0_cons,flip_lt (by omega) (by omega),← List.cons_append,hcut]
  obtain ⟨k,rfl⟩ : ∃ m,k = m + 1:=⟨k - 1,by omega⟩
  by_cases he : crcI ((16 * kind + s + 128) :: b) = crcI ((16 * kind + s) :: b) / 256 * 256 + crcI ((16 * kind + s) :: b) % 256
  · rw [if_pos he,Option.bind_some,if_pos rfl]
    simp only [impl_UnpackLink.j0]
    have hr : rd ((16 * kind + s + 128) :: b) 0 = 16 * kind + s + 128:=rfl
    have hw : wrap64 (16 * kind + s + 128) = 16 * kind + s + 128:=wrap_eq (by omega) (by omega)
    have hd : wrap64 (Int.tdiv (16 * kind + s + 128) 16) = kind + 8:=by rw [Int.tdiv_eq_ediv_of_nonneg (by omega),wrap_eq (by omega) (by omega)];omega
    rw [if_neg (by simp <;> omega),if_pos (by simp <;> omega),hr,hw,hd]
    unfold impl_within.f
    rw [if_pos (by omega),Option.bind_some,if_neg (by simp <;> omega)]
  · rw [if_neg he,Option.bind_some,if_neg (by decide)]
    simp only [impl_UnpackLink.j0,if_pos]

end Go.Proofs.Ytdpnloibbimblaa.PAll
