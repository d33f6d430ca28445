/- Proved here: contracts of functions of the given program, or lemmas on them, for the laws of this seat. Written by xprint.py, a program of this session, on the ground of the kit's print; parts by hand: wip/x/ext. -/
import Derived.Test.YtfbicfnokibobaaPAllx0
import Derived.Test.YtfbicfnokibobaaPAllx1
namespace Go.Proofs.Ytfbicfnokibobaa.PAll
open Go.RowKit Go.Proofs.YtfbicfnokibobaaW.PrintWords Go.Proofs.YtfbicfnokibobaaW.PrintLast Go.Proofs.YtfbicfnokibobaaW.PrintMore
attribute [local go_sem] max2_int min2_int max_two min_two max_three min_three max_four min_four   -- for this text's walks alone
set_option linter.unusedVariables false
set_option linter.unusedSimpArgs false

-- LIB mappedtake
/-- Which frames are let through, from a state on. -/
def polL (r b : Int) : Int → Int → List S35 → List Bool
  | _, _, [] => []
  | T, a, p :: l => takeOk r b T a p.f0 p.f1 :: polL r b (takeT r b T a p.f0 p.f1) p.f0 l
theorem TurnsG.grown {w W w1 : World} {g : Nat} {row : Option Nat} (h : TurnsG w W g) (hg : W.grownBy w1 row) (hr : ∀ k, row = some k → w.heap.size ≤ k) : TurnsG w w1 g :=
  ⟨⟨Nat.le_trans h.1.1 hg.size, fun i hi hb hn => (hg.block i (Nat.lt_of_lt_of_le hi h.1.1) (fun e => by have := hr i e.symm; omega)).trans (h.1.2 i hi hb hn)⟩,
   fun w0 h0 hb => pw_below_grown (h.2 w0 h0 hb) row (Nat.le_trans hb.size h.1.1) hg (fun k hk => Nat.le_trans hb.size (hr k hk))⟩
set_option maxHeartbeats 8000000 in
set_option maxRecDepth 100000 in
theorem x_mapped (g : Nat) (r b : Int) (A0 : Option Addr) (c0 : Nat) (l0 : List S35) (w0 w : World) (hl : l0.length ≤ 60) (h0 : w0.heap.size ≤ g) (hB : Below w0.heap.size w0 w) (hg : w.heap[g]? = some (bk r b b 0)) (hr0 : Kd.C k35 w0 A0 l0.length l0) :
    Calls Try.prog 50 #[.slice A0 l0.length c0, .func (.func 45) #[.pointer (some ⟨g, 0, none⟩)] #[]] w fun e w' => ∃ v : Value, e = .returned v ∧ Kd.R Kd.bool 4 w' w0.heap.size (fun k => w.heap.size ≤ k) v (polL r b b 0 l0) ∧ Below w0.heap.size w0 w' := by
  have hu := Try.underlying35
  have hgw := blk_lt hg
  have HR := Aside0.mk hr0
  have HB := Aside0.mk hB
  have HG := Aside0.mk hg
  have hsz := hB.size
  clear hr0 hB hg
  go_enter Try.func50, Try.ntmps50
  go_wp2
  go_loopg [5, 7, 10] l0.length (fun gg s5 _ s10 wr => ∃ (kk : Nat) (v : Value) (bs : List Bool) (T a : Int), kk ≤ l0.length ∧ l0.length - kk ≤ gg ∧ v = s5 ∧ s10 = .int .i64 kk ∧ bs.length = kk ∧ Aside0 (bs ++ polL r b T a (l0.drop kk) = polL r b b 0 l0) ∧
    Aside0 (Kd.R Kd.bool 4 wr w0.heap.size (fun k => w.heap.size ≤ k) v bs) ∧ Aside0 (wr.heap[g]? = some (bk r b T a)) ∧ Aside0 (Below w0.heap.size w0 wr) ∧ w.heap.size ≤ wr.heap.size)
  case atStart => exact ⟨0, _, [], b, 0, Nat.zero_le _, by omega, rfl, rfl, rfl, ⟨rfl⟩, ⟨Kd.R_nil _ _ _ _ _⟩, HG, HB, Nat.le_refl _⟩
  case round =>
    obtain ⟨kk, v, bs, T, a, hkk, hgg, rfl, rfl, hbl, HP, HO, HS, BW, hws⟩ := hrel
    by_cases hlt : kk < l0.length
    · obtain ⟨ad, e, hx0, hx1⟩ := at_T35 (Kd.C_below HR.out BW.out) (kk : Int) (by omega) (by omega)
      cases e
      rw [Int.toNat_natCast] at hx0 hx1
      have hcall := fun W (hW : W.heap[g]? = some (bk r b T a)) => x_take g r b T a (rd_T35 l0 kk).f0 (rd_T35 l0 kk).f1 W hW
      have hcons : polL r b T a (l0.drop kk) = takeOk r b T a (rd_T35 l0 kk).f0 (rd_T35 l0 kk).f1 :: polL r b (takeT r b T a (rd_T35 l0 kk).f0 (rd_T35 l0 kk).f1) (rd_T35 l0 kk).f0 (l0.drop (kk + 1)) := by
        rw [List.drop_eq_getElem_cons hlt, rdP_get l0 kk hlt]; rfl
      have HP' : Aside0 ((bs ++ [takeOk r b T a (rd_T35 l0 kk).f0 (rd_T35 l0 kk).f1]) ++ polL r b (takeT r b T a (rd_T35 l0 kk).f0 (rd_T35 l0 kk).f1) (rd_T35 l0 kk).f0 (l0.drop (kk + 1)) = polL r b b 0 l0) := ⟨by rw [← HP.out, hcons, List.append_assoc]; rfl⟩
      clear hcons
      generalize (rd_T35 l0 kk).f0 = pa at hx0 hcall HP'
      generalize (rd_T35 l0 kk).f1 = ps at hx1 hcall HP'
      generalize takeOk r b T a pa ps = tk at hcall HP'
      generalize takeT r b T a pa ps = tt at hcall HP'
      go_wp2_with fail
      refine (hcall _ (by exact blk_alloc HS.out _)).mono ?_
      rintro e w1 ⟨rfl, hg1, ht1⟩
      have ht2 := (TurnsG.below (below_alloc (Below.refl _ wr) (.cells #[.int .i64 pa, .int .i64 ps] 35)) g).trans ht1
      have HO1 := Aside0.mk (Kd.R_keep HO.out ht2.1 (fun k hk => by omega))
      have BW1 := Aside0.mk (ht2.2 w0 h0 BW.out)
      have hws1 := ht2.1.1
      have HG1 := Aside0.mk hg1
      clear ht1 ht2 hg1 HO BW HS HP hcall
      have hl1 : bs.length + 1 ≤ 60 := by omega
      go_wp2_with (first | ((with_reducible refine gate_builtin (b := .append) (xs := #[.tmp 14, .tmp 18]) rfl ?_); at_builtin; refine Kd.R_append Kd.bool (w0 := w0) w0.heap.size rfl (.tmp 14) (.tmp 18) 32 4 (.bool false) 1 rfl Try.underlying32 (by kernel_rfl) rfl (by decide) (by omega) v bs tk [.bool tk] (fun k => w.heap.size ≤ k) (fun _ => False) rfl rfl ?aP (fun _ hk => hk.elim) ?aF ?aO ?aB ?aS ?aL ?_; (case aP => exact rfl); (case aB => exact BW1.out); (case aF => exact (fun k hk => by omega)); (case aO => exact HO1.out); (case aS => exact BW1.out.size); (case aL => omega); intro v2 w2 ho2 hb2 hgr2 _; have HO2 := Aside0.mk ho2; have BW2 := Aside0.mk hb2; have HG2 := Aside0.mk (blk_grown HG1.out hgr2 (fun e => by have := HO1.out.1 g e.symm; omega)); have hws2 := hgr2.size; clear ho2 hb2 hgr2))
      go_roundg (l0.length - (kk + 1))
      case measure => omega
      case rel => exact ⟨kk + 1, v2, bs ++ [tk], tt, pa, by omega, by omega, rfl, by go_num, by simp [hbl], HP', HO2, HG2, BW2, by omega⟩
    · have e : kk = l0.length := by omega
      subst e
      go_wp2
      go_ret
      refine ⟨v, rfl, ?_, BW.out⟩
      rw [← HP.out, List.drop_length]
      simpa [polL] using HO.out

/-! ### impl_PolicePulses: function 20 (by hand) -/
def polF (r b : Int) (l : List S35) : List Bool := if fitsB r b l = true then polL r b b 0 l else []
def impl_PolicePulses.f (a0 : Int) (a1 : Int) (l2 : List (S35)) : Option (List Bool) :=
  some (polF a0 a1 l2)
set_option maxHeartbeats 4000000 in
set_option maxRecDepth 100000 in
theorem impl_PolicePulses.calls (a0 : Int) (a1 : Int) (A2 : Option Addr) (c2 : Nat) (l2 : List (S35)) (r : List Bool) (w : World) (hr2 : Kd.C k35 w A2 l2.length l2) (hc2 : l2.length ≤ c2) (h : impl_PolicePulses.f a0 a1 l2 = some r) :
    Calls Try.prog 20 #[.int .i64 a0, .int .i64 a1, .slice A2 l2.length c2] w fun e w' => ∃ v0_ : Value, e = .returned (v0_) ∧ Kd.R Kd.bool 4 w' w.heap.size (fun _ => True) v0_ r ∧ Below w.heap.size w w' := by
  obtain rfl := Option.some.inj h
  have hmf : ∀ (fn : Fn) (first cap : Array Value) (w : World), (Instr.makeFunc fn first cap).run Try.prog w = .ok (.func fn first cap) w := fun _ _ _ _ => rfl
  have hnb := x_newBucket a0 a1 A2 c2 l2 w hr2 hc2
  have HR := Aside0.mk hr2
  have HF : Aside0 (polF a0 a1 l2 = if fitsB a0 a1 l2 = true then polL a0 a1 a1 0 l2 else []) := ⟨rfl⟩
  have HL : Aside0 (fitsB a0 a1 l2 = true → l2.length ≤ 60) := ⟨fun h => (fitsB_facts h).2.1⟩
  clear h hr2 hc2
  generalize polF a0 a1 l2 = z at HF ⊢
  generalize fitsB a0 a1 l2 = f at HF HL hnb
  cases f with
  | false =>
    have HZ : Aside0 (z = []) := ⟨by rw [HF.out]; rfl⟩
    go_enter Try.func20, Try.ntmps20
    go_wp2_with fail
    refine hnb.mono ?_
    rintro e w1 ⟨g, rfl, hg1, hge, hb1⟩
    clear hg1
    go_wp2
    go_ret
    exact ⟨.slice none 0 0, rfl, by rw [HZ.out]; exact Kd.R_nil _ _ _ _ _, hb1⟩
  | true =>
    have HZ : Aside0 (z = polL a0 a1 a1 0 l2) := ⟨by rw [HF.out]; rfl⟩
    have hl := HL.out rfl
    go_enter Try.func20, Try.ntmps20
    go_wp2_with fail
    refine hnb.mono ?_
    rintro e w1 ⟨g, rfl, hg1, hge, hb1⟩
    have hm := x_mapped g a0 a1 A2 c2 l2 w w1 hl hge hb1 hg1 HR.out
    clear hg1 hb1
    go_wp2_with fail
    refine hm.mono ?_
    rintro e w2 ⟨v, rfl, hR, hb2⟩
    have HX := Aside0.mk (And.intro hR hb2)
    clear hR hb2 hm hnb
    go_wp2_with fail
    go_ret
    exact ⟨v, rfl, by rw [HZ.out]; exact Kd.R_mono HX.out.1 (fun _ _ => trivial), HX.out.2⟩

/-! ### slices_Index_bool_bool: function 54 -/
def slices_Index_bool_bool.l0 : Nat → List Bool → Bool → Int → Int → Option (Int)
  | 0, _, _, _, _ => none
  | k + 1, x0, x1, x7, x8 => if x8 < x7 then (if 0 ≤ x8 then (if x8 < (x0.length : Int) then (if (x1 == (rdOf false x0 x8)) = true then (some x8) else (slices_Index_bool_bool.l0 k x0 x1 x7 (wrap64 (x8 + 1)))) else (none)) else (none)) else (some (-1))
def slices_Index_bool_bool.f (k : Nat) (l0 : List Bool) (a1 : Bool) : Option (Int) := slices_Index_bool_bool.l0 k l0 a1 (l0.length : Int) 0
theorem slices_Index_bool_bool.mono_l : ∀ k, (∀ y0 y1 y2 y3, LeO (slices_Index_bool_bool.l0 k y0 y1 y2 y3) (slices_Index_bool_bool.l0 (k + 1) y0 y1 y2 y3))
  | 0 => fun _ _ _ _ r h => by simp [slices_Index_bool_bool.l0] at h
  | k + 1 => by
    have ih0 := slices_Index_bool_bool.mono_l k
    · intro y0 y1 y2 y3
      unfold slices_Index_bool_bool.l0
      repeat' first
      | (with_reducible exact ih0 _ _ _ _)
      | (with_reducible exact LeO.refl _)
      | (with_reducible exact LeO.none _)
      | (with_reducible refine LeO.ite ?_ ?_)
      | (with_reducible refine LeO.bind ?_ (fun _ => ?_))
      | exact ih0 _ _ _ _
      | exact LeO.none _
      | refine LeO.ite ?_ ?_
      | refine LeO.bind ?_ (fun _ => ?_)
theorem slices_Index_bool_bool.mono : ∀ a0 a1 k, LeO (slices_Index_bool_bool.f k a0 a1) (slices_Index_bool_bool.f (k + 1) a0 a1) := by
  intro a0 a1 k
  have ih0 := slices_Index_bool_bool.mono_l k
  unfold slices_Index_bool_bool.f
  repeat' first
      | (with_reducible exact ih0 _ _ _ _)
      | (with_reducible exact LeO.refl _)
      | (with_reducible exact LeO.none _)
      | (with_reducible refine LeO.ite ?_ ?_)
      | (with_reducible refine LeO.bind ?_ (fun _ => ?_))
      | exact ih0 _ _ _ _
      | exact LeO.none _
      | refine LeO.ite ?_ ?_
      | refine LeO.bind ?_ (fun _ => ?_)
set_option maxHeartbeats 8000000 in
set_option maxRecDepth 100000 in
theorem slices_Index_bool_bool.calls (k : Nat) (A0 : Option Addr) (c0 : Nat) (l0 : List Bool) (a1 : Bool) (r : Int) (w : World) (hr0 : Kd.C Kd.bool w A0 l0.length l0) (hc0 : l0.length ≤ c0) (h : slices_Index_bool_bool.f k l0 a1 = some r) :
    Calls Try.prog 54 #[.slice A0 l0.length c0, .bool a1] w fun e w' => e = .returned (.int .i64 r) ∧ Drawn0 w w' := by
  have HR0 := Aside0.mk hr0
  have HC0 := Aside0.mk hc0
  clear hr0 hc0
  have H : (slices_Index_bool_bool.l0 k l0 a1 (l0.length : Int) 0) = some r := h
  clear h
  have H' := Aside0.mk H
  clear H
  go_enter Try.func54, Try.ntmps54
  go_wp2
  go_loopg [8] k (fun kq v8 w' => ∃ (x8_1 : Int), v8 = .int .i64 x8_1 ∧ Aside0 (slices_Index_bool_bool.l0 kq l0 a1 (l0.length : Int) x8_1 = some r) ∧ Aside0 (kq ≤ k) ∧ Drawn0 w w')
  case atStart => exact ⟨(0), (by first | rfl | (simp; done) | (simp [*]; done)), H', ⟨Nat.le_refl _⟩, by repeat (first | exact Drawn0.refl _ | apply Drawn0.step)⟩
  case round =>
    clear H'
    try clear p2
    obtain ⟨x8_1, rfl, HA, HK1, ⟨m1, rfl⟩⟩ := hrel
    cases gk with
    | zero => exact absurd HA.out (by simp [slices_Index_bool_bool.l0])
    | succ k1 =>
      have H := HA.out
      clear HA
      simp only [slices_Index_bool_bool.l0] at H
      by_cases c3 : x8_1 < (l0.length : Int)
      · rw [if_pos c3] at H
        have c3b0 : decide (x8_1 < (l0.length : Int)) = true := decide_eq_true c3
        clear c3
        by_cases c4 : 0 ≤ x8_1
        · rw [if_pos c4] at H
          have c4b0 : decide (0 ≤ x8_1) = true := decide_eq_true c4
          clear c4
          by_cases c5 : x8_1 < (l0.length : Int)
          · rw [if_pos c5] at H
            have c5b0 : decide (x8_1 < (l0.length : Int)) = true := decide_eq_true c5
            clear c5
            by_cases c6 : (a1 == (rdOf false l0 x8_1)) = true
            · rw [if_pos c6] at H
              have c6b0 : (a1 == (rdOf false l0 x8_1)) = true := c6
              (try (have c6b1 : decide (a1 = (rdOf false l0 x8_1)) = true := by simpa using c6))
              (try (have c6b2 : (a1 == (rdOf false l0 x8_1)) = true := by simpa using c6))
              clear c6
              obtain rfl := Option.some.inj H
              have p244 : 0 ≤ (x8_1 : Int) := of_decide_eq_true (by first | (with_reducible assumption) | assumption)
              have q244 : x8_1 < (l0.length : Int) := of_decide_eq_true (by first | (with_reducible assumption) | assumption)
              obtain ⟨ad244, e244, hx244_0⟩ := Kd.at_bool HR0.out x8_1 p244 q244
              cases e244
              replace p244 := eq_true p244
              replace q244 := eq_true q244
              go_wp2
              go_ret
              exact ⟨by first | rfl | (simp; done) | (simp [*]; done), by repeat (first | exact Drawn0.refl _ | apply Drawn0.step)⟩
            · rw [if_neg c6] at H
              have c6b0 : (a1 == (rdOf false l0 x8_1)) = false := by simpa using c6
              (try (have c6b1 : decide (a1 = (rdOf false l0 x8_1)) = false := by simpa using c6))
              (try (have c6b2 : (a1 == (rdOf false l0 x8_1)) = false := by simpa using c6))
              (try (have c6b3 : ¬ (a1 = (rdOf false l0 x8_1)) := by simpa using c6))
              clear c6
              have H' := Aside0.mk H
              clear H
              have p244 : 0 ≤ (x8_1 : Int) := of_decide_eq_true (by first | (with_reducible assumption) | assumption)
              have q244 : x8_1 < (l0.length : Int) := of_decide_eq_true (by first | (with_reducible assumption) | assumption)
              obtain ⟨ad244, e244, hx244_0⟩ := Kd.at_bool HR0.out x8_1 p244 q244
              cases e244
              replace p244 := eq_true p244
              replace q244 := eq_true q244
              go_wp2
              go_roundg k1
              case measure => have := HK1.out; omega
              case rel => exact ⟨(wrap64 (x8_1 + 1)), (by first | rfl | (simp; done) | (simp [*]; done)), H', ⟨by have := HK1.out; omega⟩, by repeat (first | exact Drawn0.refl _ | apply Drawn0.step)⟩
          · rw [if_neg c5] at H
            exact absurd H (by simp)
        · rw [if_neg c4] at H
          exact absurd H (by simp)
      · rw [if_neg c3] at H
        have c3b0 : decide (x8_1 < (l0.length : Int)) = false := decide_eq_false c3
        clear c3
        obtain rfl := Option.some.inj H
        go_wp2
        go_ret
        exact ⟨by first | rfl | (simp; done) | (simp [*]; done), by repeat (first | exact Drawn0.refl _ | apply Drawn0.step)⟩

/-! ### slices_Contains_bool_bool: function 51 -/
def slices_Contains_bool_bool.f (k : Nat) (l0 : List Bool) (a1 : Bool) : Option (Bool) := (slices_Index_bool_bool.f k l0 a1).bind fun t245 => (some (decide (t245 ≥ 0)))
theorem slices_Contains_bool_bool.mono : ∀ a0 a1 k, LeO (slices_Contains_bool_bool.f k a0 a1) (slices_Contains_bool_bool.f (k + 1) a0 a1) := by
  intro a0 a1 k
  unfold slices_Contains_bool_bool.f
  repeat' first
      | (with_reducible exact slices_Index_bool_bool.mono _ _ _)
      | (with_reducible exact LeO.refl _)
      | (with_reducible exact LeO.none _)
      | (with_reducible refine LeO.ite ?_ ?_)
      | (with_reducible refine LeO.bind ?_ (fun _ => ?_))
      | exact slices_Index_bool_bool.mono _ _ _
      | exact LeO.none _
      | refine LeO.ite ?_ ?_
      | refine LeO.bind ?_ (fun _ => ?_)
set_option maxHeartbeats 8000000 in
set_option maxRecDepth 100000 in
theorem slices_Contains_bool_bool.calls (k : Nat) (A0 : Option Addr) (c0 : Nat) (l0 : List Bool) (a1 : Bool) (r : Bool) (w : World) (hr0 : Kd.C Kd.bool w A0 l0.length l0) (hc0 : l0.length ≤ c0) (h : slices_Contains_bool_bool.f k l0 a1 = some r) :
    Calls Try.prog 51 #[.slice A0 l0.length c0, .bool a1] w fun e w' => e = .returned (.bool r) ∧ Drawn0 w w' := by
  have HR0 := Aside0.mk hr0
  have HC0 := Aside0.mk hc0
  clear hr0 hc0
  have H : ((slices_Index_bool_bool.f k l0 a1).bind fun t245 => (some (decide (t245 ≥ 0)))) = some r := h
  clear h
  replace H := Option.bind_eq_some_iff.mp H
  obtain ⟨t245, A30, H⟩ := H
  replace H : (some (decide (t245 ≥ 0))) = some r := H
  have A3 := Aside0.mk A30
  clear A30
  obtain rfl := Option.some.inj H
  go_enter Try.func51, Try.ntmps51
  go_wp2_with (first | ((with_reducible refine gate_callee (f := 54) rfl ?_); refine goesL_ (some 7) rfl rfl Try.func54 (by kernel_rfl) rfl #[.slice A0 l0.length c0, .bool a1] rfl (by (try simp only [List.map_toArray, List.map_cons, List.map_nil]); first | done | rfl | (simp only [List.length_drop, List.length_take]; rfl)) ?_; (with_reducible refine (slices_Index_bool_bool.calls k _ _ l0 a1 t245 _ ?side1 ?side2 A3.out).mono ?_); (case side1 => repeat (first | exact HR0.out | (with_reducible refine Kd.C_alloc ?_ _) | (with_reducible refine Kd.C_drewN ?_ _) | (with_reducible refine Kd.C_drew ?_))); (case side2 => exact HC0.out); rintro e w' ⟨rfl, ⟨nd, rfl⟩⟩; refine ⟨_, rfl, ?_⟩))
  go_ret
  exact ⟨by first | rfl | (simp; done) | (simp [*]; done), by repeat (first | exact Drawn0.refl _ | apply Drawn0.step)⟩

/-! ### impl_Conforms: function 22 (by hand) -/
theorem indexB_at (l : List Bool) (hl : l.length ≤ 9223372036854775807) (d : Nat) : ∀ (k i : Nat), i + d = l.length → d < k → ∃ r, slices_Index_bool_bool.l0 k l false l.length (i : Int) = some r ∧ (decide (r ≥ 0) = !(l.drop i).all id) := by
  induction d with
  | zero =>
    intro k i h2 hk
    obtain ⟨k, rfl⟩ : ∃ m, k = m + 1 := ⟨k - 1, by omega⟩
    have e1 : l.drop i = [] := by rw [show i = l.length by omega, List.drop_length]
    refine ⟨-1, ?_, ?_⟩
    · simp only [slices_Index_bool_bool.l0]
      rw [if_neg (by omega)]
    · rw [e1]; rfl
  | succ d ih =>
    intro k i h2 hk
    obtain ⟨k, rfl⟩ : ∃ m, k = m + 1 := ⟨k - 1, by omega⟩
    have r1 : rdOf false l (i : Int) = l[i] := by simp [rdOf, List.getD_eq_getElem?_getD, show i < l.length by omega]
    rw [List.drop_eq_getElem_cons (show i < l.length by omega), List.all_cons]
    simp only [slices_Index_bool_bool.l0]
    rw [if_pos (by omega), if_pos (by omega), if_pos (by omega), r1, wrap_succ (show i < l.length by omega) (by omega)]
    cases hc : l[i] with
    | false =>
      rw [if_pos (by decide)]
      exact ⟨(i : Int), rfl, by simp⟩
    | true =>
      rw [if_neg (by decide)]
      obtain ⟨r, hr, h⟩ := ih k (i + 1) (by omega) (by omega)
      exact ⟨r, hr, h⟩
theorem containsB_eq (l : List Bool) (hl : l.length ≤ 9223372036854775807) : slices_Contains_bool_bool.f (l.length + 1) l false = some (!l.all id) := by
  obtain ⟨r, hr, h⟩ := indexB_at l hl l.length (l.length + 1) 0 (by omega) (by omega)
  unfold slices_Contains_bool_bool.f slices_Index_bool_bool.f
  have hr' : slices_Index_bool_bool.l0 (l.length + 1) l false l.length 0 = some r := hr
  rw [hr']
  simp only [Option.bind_some]
  rw [h, List.drop_zero]
def confF (r b : Int) (l : List S35) : Bool := fitsB r b l && (polF r b l).all id
def impl_Conforms.f (a0 : Int) (a1 : Int) (l2 : List (S35)) : Option (Bool) :=
  some (confF a0 a1 l2)
set_option maxHeartbeats 4000000 in
set_option maxRecDepth 100000 in
theorem impl_Conforms.calls (a0 : Int) (a1 : Int) (A2 : Option Addr) (c2 : Nat) (l2 : List (S35)) (r : Bool) (w : World) (hr2 : Kd.C k35 w A2 l2.length l2) (hc2 : l2.length ≤ c2) (h : impl_Conforms.f a0 a1 l2 = some r) :
    Calls Try.prog 22 #[.int .i64 a0, .int .i64 a1, .slice A2 l2.length c2] w fun e w' => e = .returned (.bool r) ∧ Below w.heap.size w w' := by
  obtain rfl := Option.some.inj h
  have hnb := x_newBucket a0 a1 A2 c2 l2 w hr2 hc2
  have HP := Aside0.mk (fun (W : World) (hW : Below w.heap.size w W) => impl_PolicePulses.calls a0 a1 A2 c2 l2 _ W (Kd.C_below hr2 hW) hc2 rfl)
  have HF : Aside0 (confF a0 a1 l2 = (fitsB a0 a1 l2 && (polF a0 a1 l2).all id)) := ⟨rfl⟩
  clear h hr2 hc2
  generalize confF a0 a1 l2 = z at HF ⊢
  generalize polF a0 a1 l2 = ps at HF HP
  generalize fitsB a0 a1 l2 = f at HF hnb
  cases f with
  | false =>
    have HZ : Aside0 (z = false) := ⟨by rw [HF.out]; rfl⟩
    go_enter Try.func22, Try.ntmps22
    go_wp2_with fail
    refine hnb.mono ?_
    rintro e w1 ⟨g, rfl, hg1, hge, hb1⟩
    clear hg1
    go_wp2
    go_ret
    exact ⟨by rw [HZ.out]; rfl, hb1⟩
  | true =>
    have HZ : Aside0 (z = ps.all id) := ⟨by rw [HF.out]; rfl⟩
    go_enter Try.func22, Try.ntmps22
    go_wp2_with fail
    refine hnb.mono ?_
    rintro e w1 ⟨g, rfl, hg1, hge, hb1⟩
    have hp := HP.out w1 hb1
    clear hg1
    go_wp2_with fail
    refine hp.mono ?_
    rintro e w2 ⟨v, rfl, hR, hb2⟩
    obtain ⟨A, c, rfl, hc, hC⟩ := Kd.R_reads hR
    have hct := slices_Contains_bool_bool.calls (ps.length + 1) A c ps false _ w2 hC hc (containsB_eq ps (Kd.C_max hC))
    generalize ps.all id = y at HZ hct
    have HX := Aside0.mk (below_step hb1 hb2)
    clear hR hb2 hC hp hnb
    go_wp2_with fail
    refine hct.mono ?_
    rintro e w3 ⟨rfl, hd3⟩
    go_wp2_with fail
    go_ret
    exact ⟨by rw [HZ.out]; cases y <;> rfl, below_step HX.out hd3.below⟩

end Go.Proofs.Ytfbicfnokibobaa.PAll
