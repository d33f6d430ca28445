/- FnExactRunNet: for all arguments the program's RunNet returns what the reference's returns, leaves its arguments as they were, and what it returns shares no memory with them, nor do its rows with each other or with another result's. No condition. -/
import Derived.Test.YtblcnbnphjnhdaaPAllx5
import Derived.Test.YtblcnbnphjnhdaaPAllx6
import Derived.Test.YtblcnbnphjnhdaaPAllx8
import Derived.Test.YtblcnbnphjnhdaaPAllx9
import Derived.Test.YtblcnbnphjnhdaaPAllx10
import Derived.Test.YtblcnbnphjnhdaaPAllx11
namespace Go.Proofs.Ytblcnbnphjnhdaa.Pure
open Go.RowKit Go.Proofs.Ytblcnbnphjnhdaa.PAll Go.Proofs.YtblcnbnphjnhdaaW.PrintWords Go.Proofs.YtblcnbnphjnhdaaW.PrintLast Go.Proofs.YtblcnbnphjnhdaaW.PrintMore

theorem markNet_val (n : Int) (cs : List S83) (hs vs : List Int) (hl : cs.length + hs.length + vs.length ≤ 1048576) (k : Nat) (hk : cs.length + hs.length + vs.length < k) : ∃ m x y z, 0 ≤ m ∧ m ≤ 4000000 ∧ laws_markNet.f k n cs hs vs 1 = some (m, x, y, z) := by
  obtain ⟨x, hx⟩ := markCable_at cs.length k 0 1 cs (by omega) (by omega) (by omega) (by omega) (by omega)
  have hx' : laws_markCableS.f k cs 1 = some (1 + 3 * (cs.length : Int), x) := hx
  refine ⟨1 + 3 * (cs.length : Int) + hs.length + vs.length, x, mkI (1 + 3 * (cs.length : Int)) hs.length, mkI (1 + 3 * (cs.length : Int) + hs.length) vs.length, by omega, by omega, ?_⟩
  unfold laws_markNet.f
  rw [hx', Option.bind_some]
  simp only []
  rw [markInt_eq hs _ (by omega) (by omega) (by omega) k (by omega), Option.bind_some]
  simp only []
  rw [markInt_eq vs _ (by omega) (by omega) (by omega) k (by omega), Option.bind_some]
theorem FnExactRunNet : laws_FnExactRunNet.Pure := by
  intro n cs hs vs l _ h1 h2 h3 h4
  obtain ⟨m, hm, hm2⟩ := szNet_eq n cs hs vs h1.1 h2.1 h3.1
  by_cases c : m < 0
  · exact ⟨0, by unfold laws_FnExactRunNet.f; rw [hm, Option.bind_some, if_pos c]⟩
  obtain ⟨hl, m0, m1⟩ := hm2 c
  obtain ⟨u, hu, hu2⟩ := szHop_of l h4.1 m m0 m1
  by_cases c' : u < 0
  · exact ⟨0, by unfold laws_FnExactRunNet.f; rw [hm, Option.bind_some, if_neg c, hu, Option.bind_some, if_pos c']⟩
  have hll : l.length ≤ 1048576 := by have := hu2 c'; omega
  have hcl := cvC_len cs
  have hhl := cvH_len l
  obtain ⟨tk, ov, g3, e1, e2, tl, tr, ol, or_⟩ : ∃ (tk ov : List (List Int)) (g3 : Bool), impl_RunNet.f n (cvC cs) hs vs (cvH l) = some (tk, ov, g3) ∧ spec_RunNet.f n (cvC cs) hs vs (cvH l) = some (tk, ov, g3) ∧ tk.length ≤ 100 ∧ (∀ r ∈ tk, r.length ≤ 20) ∧ ov.length ≤ 100 ∧ ∀ r ∈ ov, r.length ≤ 20 := by
    cases hr : runB n (cvC cs) hs vs (cvH l) with
    | false =>
      obtain ⟨e1, e2⟩ := run_none hr
      exact ⟨[], [], false, e1, e2, by simp, by simp, by simp, by simp⟩
    | true =>
      obtain ⟨tk, ov, e1, e2, e3, e4, hl, hn, t20, o20, _⟩ := run_meet hr
      exact ⟨tk, ov, true, e1, e2, by omega, t20, by omega, o20⟩
  have hb1 := mkNI_bound tk tr 1
  have hb0 := mkNI_le tk 1
  have hb2 := mkNI_bound ov or_ (mkNI tk 1)
  have hb3 := mkNI_le ov (mkNI tk 1)
  obtain ⟨q, x, y, z, q0, q1, hq⟩ := markNet_val n (cvC cs) hs vs (by omega) 4000000 (by omega)
  obtain ⟨p, hp⟩ := markHop_at (cvH l).length 4000000 0 q (cvH l) (by omega) (by omega) (by omega) (by omega) (by omega)
  have hp' : laws_markHopS.f 4000000 (cvH l) q = some (q + 3 * ((cvH l).length : Int), p) := hp
  have t1 := toNet_eq n cs hs vs hl 4000000 (by omega)
  have t2 := toHop_eq l hll 4000000 (by omega)
  have t3 := eqSent_eq tk ov tl tr ol or_ 4000000 (by omega)
  have t4 := eqNet_eq n (cvC cs) hs vs (by omega) 4000000 (by omega)
  have t5 := eqHop_eq (cvH l) (by omega) 4000000 (by omega)
  have t6 := heldISS_eq tk tl 1 (by omega) (by omega) tr 4000000 (by omega)
  have t7 := heldISS_eq ov ol (mkNI tk 1) (by omega) (by omega) or_ 4000000 (by omega)
  have tM : laws_markSent.f tk ov 1 = some (mkNI ov (mkNI tk 1), mkSSI tk 1, mkSSI ov (mkNI tk 1)) := by
    unfold laws_markSent.f laws_markIntSS.f
    rw [if_pos ⟨by omega, by omega, by omega⟩, Option.bind_some]
    simp only []
    rw [if_pos ⟨by omega, by omega, by omega⟩]
    rfl
  refine ⟨4000000, ?_⟩
  generalize (4000000 : Nat) = K at hq hp' t1 t2 t3 t4 t5 t6 t7 ⊢
  have tH : laws_heldSent.f K (mkSSI tk 1) (mkSSI ov (mkNI tk 1)) 1 = some (mkNI ov (mkNI tk 1)) := by
    unfold laws_heldSent.f
    rw [t6, Option.bind_some, if_neg (by omega), t7, Option.bind_some, if_neg (by omega)]
  unfold laws_FnExactRunNet.f
  rw [hm, Option.bind_some, if_neg c, hu, Option.bind_some, if_neg c', t1, Option.bind_some]
  simp only []
  rw [t2, Option.bind_some, e1, Option.bind_some]
  simp only []
  rw [e2, Option.bind_some]
  rw [t3, Option.bind_some, t4, Option.bind_some, t5, Option.bind_some, hq, Option.bind_some]
  simp only []
  rw [hp', Option.bind_some, tM, Option.bind_some]
  simp only []
  rw [tH, Option.bind_some]
  rw [if_pos ⟨by first | trivial | rfl, by first | trivial | rfl, by first | trivial | rfl, by first | trivial | rfl, by show (0 : Int) ≤ q + 3 * ((cvH l).length : Int); omega, by first | trivial | rfl, by show (0 : Int) ≤ mkNI ov (mkNI tk 1); omega⟩]

end Go.Proofs.Ytblcnbnphjnhdaa.Pure
