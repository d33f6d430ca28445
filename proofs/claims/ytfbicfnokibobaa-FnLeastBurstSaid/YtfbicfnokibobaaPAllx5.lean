/- Proved here: contracts of functions of the given program, or lemmas on them, for the laws of this seat. Written by xprint.py, a program of this session, on the ground of the kit's print; parts by hand: wip/x/ext. -/
import Derived.Test.YtfbicfnokibobaaPAllx0
import Derived.Test.YtfbicfnokibobaaPAllx1
namespace Go.Proofs.Ytfbicfnokibobaa.PAll
open Go.RowKit Go.Proofs.YtfbicfnokibobaaW.PrintWords Go.Proofs.YtfbicfnokibobaaW.PrintLast Go.Proofs.YtfbicfnokibobaaW.PrintMore
attribute [local go_sem] max2_int min2_int max_two min_two max_three min_three max_four min_four   -- for this text's walks alone
set_option linter.unusedVariables false
set_option linter.unusedSimpArgs false

-- LIB mappedtake
/-- Which frames are let through, from a state on. -/
def polL (r b : Int) : Int → Int → List S35 → List Bool
  | _, _, [] => []
  | T, a, p :: l => takeOk r b T a p.f0 p.f1 :: polL r b (takeT r b T a p.f0 p.f1) p.f0 l
theorem TurnsG.grown {w W w1 : World} {g : Nat} {row : Option Nat} (h : TurnsG w W g) (hg : W.grownBy w1 row) (hr : ∀ k, row = some k → w.heap.size ≤ k) : TurnsG w w1 g :=
  ⟨⟨Nat.le_trans h.1.1 hg.size, fun i hi hb hn => (hg.block i (Nat.lt_of_lt_of_le hi h.1.1) (fun e => by have := hr i e.symm; omega)).trans (h.1.2 i hi hb hn)⟩,
   fun w0 h0 hb => pw_below_grown (h.2 w0 h0 hb) row (Nat.le_trans hb.size h.1.1) hg (fun k hk => Nat.le_trans hb.size (hr k hk))⟩
set_option maxHeartbeats 8000000 in
set_option maxRecDepth 100000 in
theorem x_mapped (g : Nat) (r b : Int) (A0 : Option Addr) (c0 : Nat) (l0 : List S35) (w0 w : World) (hl : l0.length ≤ 60) (h0 : w0.heap.size ≤ g) (hB : Below w0.heap.size w0 w) (hg : w.heap[g]? = some (bk r b b 0)) (hr0 : Kd.C k35 w0 A0 l0.length l0) :
    Calls Try.prog 50 #[.slice A0 l0.length c0, .func (.func 45) #[.pointer (some ⟨g, 0, none⟩)] #[]] w fun e w' => ∃ v : Value, e = .returned v ∧ Kd.R Kd.bool 4 w' w0.heap.size (fun k => w.heap.size ≤ k) v (polL r b b 0 l0) ∧ Below w0.heap.size w0 w' := by
  have hu := Try.underlying35
  have hgw := blk_lt hg
  have HR := Aside0.mk hr0
  have HB := Aside0.mk hB
  have HG := Aside0.mk hg
  have hsz := hB.size
  clear hr0 hB hg
  go_enter Try.func50, Try.ntmps50
  go_wp2
  go_loopg [5, 7, 10] l0.length (fun gg s5 _ s10 wr => ∃ (kk : Nat) (v : Value) (bs : List Bool) (T a : Int), kk ≤ l0.length ∧ l0.length - kk ≤ gg ∧ v = s5 ∧ s10 = .int .i64 kk ∧ bs.length = kk ∧ Aside0 (bs ++ polL r b T a (l0.drop kk) = polL r b b 0 l0) ∧
    Aside0 (Kd.R Kd.bool 4 wr w0.heap.size (fun k => w.heap.size ≤ k) v bs) ∧ Aside0 (wr.heap[g]? = some (bk r b T a)) ∧ Aside0 (Below w0.heap.size w0 wr) ∧ w.heap.size ≤ wr.heap.size)
  case atStart => exact ⟨0, _, [], b, 0, Nat.zero_le _, by omega, rfl, rfl, rfl, ⟨rfl⟩, ⟨Kd.R_nil _ _ _ _ _⟩, HG, HB, Nat.le_refl _⟩
  case round =>
    obtain ⟨kk, v, bs, T, a, hkk, hgg, rfl, rfl, hbl, HP, HO, HS, BW, hws⟩ := hrel
    by_cases hlt : kk < l0.length
    · obtain ⟨ad, e, hx0, hx1⟩ := at_T35 (Kd.C_below HR.out BW.out) (kk : Int) (by omega) (by omega)
      cases e
      rw [Int.toNat_natCast] at hx0 hx1
      have hcall := fun W (hW : W.heap[g]? = some (bk r b T a)) => x_take g r b T a (rd_T35 l0 kk).f0 (rd_T35 l0 kk).f1 W hW
      have hcons : polL r b T a (l0.drop kk) = takeOk r b T a (rd_T35 l0 kk).f0 (rd_T35 l0 kk).f1 :: polL r b (takeT r b T a (rd_T35 l0 kk).f0 (rd_T35 l0 kk).f1) (rd_T35 l0 kk).f0 (l0.drop (kk + 1)) := by
        rw [List.drop_eq_getElem_cons hlt, rdP_get l0 kk hlt]; rfl
      have HP' : Aside0 ((bs ++ [takeOk r b T a (rd_T35 l0 kk).f0 (rd_T35 l0 kk).f1]) ++ polL r b (takeT r b T a (rd_T35 l0 kk).f0 (rd_T35 l0 kk).f1) (rd_T35 l0 kk).f0 (l0.drop (kk + 1)) = polL r b b 0 l0) := ⟨by rw [← HP.out, hcons, List.append_assoc]; rfl⟩
      clear hcons
      generalize (rd_T35 l0 kk).f0 = pa at hx0 hcall HP'
      generalize (rd_T35 l0 kk).f1 = ps at hx1 hcall HP'
      generalize takeOk r b T a pa ps = tk at hcall HP'
      generalize takeT r b T a pa ps = tt at hcall HP'
      go_wp2_with fail
      refine (hcall _ (by exact blk_alloc HS.out _)).mono ?_
      rintro e w1 ⟨rfl, hg1, ht1⟩
      have ht2 := (TurnsG.below (below_alloc (Below.refl _ wr) (.cells #[.int .i64 pa, .int .i64 ps] 35)) g).trans ht1
      have HO1 := Aside0.mk (Kd.R_keep HO.out ht2.1 (fun k hk => by omega))
      have BW1 := Aside0.mk (ht2.2 w0 h0 BW.out)
      have hws1 := ht2.1.1
      have HG1 := Aside0.mk hg1
      clear ht1 ht2 hg1 HO BW HS HP hcall
      have hl1 : bs.length + 1 ≤ 60 := by omega
      go_wp2_with (first | ((with_reducible refine gate_builtin (b := .append) (xs := #[.tmp 14, .tmp 18]) rfl ?_); at_builtin; refine Kd.R_append Kd.bool (w0 := w0) w0.heap.size rfl (.tmp 14) (.tmp 18) 32 4 (.bool false) 1 rfl Try.underlying32 (by kernel_rfl) rfl (by decide) (by omega) v bs tk [.bool tk] (fun k => w.heap.size ≤ k) (fun _ => False) rfl rfl ?aP (fun _ hk => hk.elim) ?aF ?aO ?aB ?aS ?aL ?_; (case aP => exact rfl); (case aB => exact BW1.out); (case aF => exact (fun k hk => by omega)); (case aO => exact HO1.out); (case aS => exact BW1.out.size); (case aL => omega); intro v2 w2 ho2 hb2 hgr2 _; have HO2 := Aside0.mk ho2; have BW2 := Aside0.mk hb2; have HG2 := Aside0.mk (blk_grown HG1.out hgr2 (fun e => by have := HO1.out.1 g e.symm; omega)); have hws2 := hgr2.size; clear ho2 hb2 hgr2))
      go_roundg (l0.length - (kk + 1))
      case measure => omega
      case rel => exact ⟨kk + 1, v2, bs ++ [tk], tt, pa, by omega, by omega, rfl, by go_num, by simp [hbl], HP', HO2, HG2, BW2, by omega⟩
    · have e : kk = l0.length := by omega
      subst e
      go_wp2
      go_ret
      refine ⟨v, rfl, ?_, BW.out⟩
      rw [← HP.out, List.drop_length]
      simpa [polL] using HO.out

/-! ### impl_PolicePulses: function 20 (by hand) -/
def polF (r b : Int) (l : List S35) : List Bool := if fitsB r b l = true then polL r b b 0 l else []
def impl_PolicePulses.f (a0 : Int) (a1 : Int) (l2 : List (S35)) : Option (List Bool) :=
  some (polF a0 a1 l2)
set_option maxHeartbeats 4000000 in
set_option maxRecDepth 100000 in
theorem impl_PolicePulses.calls (a0 : Int) (a1 : Int) (A2 : Option Addr) (c2 : Nat) (l2 : List (S35)) (r : List Bool) (w : World) (hr2 : Kd.C k35 w A2 l2.length l2) (hc2 : l2.length ≤ c2) (h : impl_PolicePulses.f a0 a1 l2 = some r) :
    Calls Try.prog 20 #[.int .i64 a0, .int .i64 a1, .slice A2 l2.length c2] w fun e w' => ∃ v0_ : Value, e = .returned (v0_) ∧ Kd.R Kd.bool 4 w' w.heap.size (fun _ => True) v0_ r ∧ Below w.heap.size w w' := by
  obtain rfl := Option.some.inj h
  have hmf : ∀ (fn : Fn) (first cap : Array Value) (w : World), (Instr.makeFunc fn first cap).run Try.prog w = .ok (.func fn first cap) w := fun _ _ _ _ => rfl
  have hnb := x_newBucket a0 a1 A2 c2 l2 w hr2 hc2
  have HR := Aside0.mk hr2
  have HF : Aside0 (polF a0 a1 l2 = if fitsB a0 a1 l2 = true then polL a0 a1 a1 0 l2 else []) := ⟨rfl⟩
  have HL : Aside0 (fitsB a0 a1 l2 = true → l2.length ≤ 60) := ⟨fun h => (fitsB_facts h).2.1⟩
  clear h hr2 hc2
  generalize polF a0 a1 l2 = z at HF ⊢
  generalize fitsB a0 a1 l2 = f at HF HL hnb
  cases f with
  | false =>
    have HZ : Aside0 (z = []) := ⟨by rw [HF.out]; rfl⟩
    go_enter Try.func20, Try.ntmps20
    go_wp2_with fail
    refine hnb.mono ?_
    rintro e w1 ⟨g, rfl, hg1, hge, hb1⟩
    clear hg1
    go_wp2
    go_ret
    exact ⟨.slice none 0 0, rfl, by rw [HZ.out]; exact Kd.R_nil _ _ _ _ _, hb1⟩
  | true =>
    have HZ : Aside0 (z = polL a0 a1 a1 0 l2) := ⟨by rw [HF.out]; rfl⟩
    have hl := HL.out rfl
    go_enter Try.func20, Try.ntmps20
    go_wp2_with fail
    refine hnb.mono ?_
    rintro e w1 ⟨g, rfl, hg1, hge, hb1⟩
    have hm := x_mapped g a0 a1 A2 c2 l2 w w1 hl hge hb1 hg1 HR.out
    clear hg1 hb1
    go_wp2_with fail
    refine hm.mono ?_
    rintro e w2 ⟨v, rfl, hR, hb2⟩
    have HX := Aside0.mk (And.intro hR hb2)
    clear hR hb2 hm hnb
    go_wp2_with fail
    go_ret
    exact ⟨v, rfl, by rw [HZ.out]; exact Kd.R_mono HX.out.1 (fun _ _ => trivial), HX.out.2⟩

end Go.Proofs.Ytfbicfnokibobaa.PAll
