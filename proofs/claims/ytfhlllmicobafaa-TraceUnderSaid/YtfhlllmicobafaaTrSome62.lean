/- TrSome62: texts for the statements of this seat: contracts of functions, walks, plain laws. Conditions: none. -/
import Derived.Test.YtfhlllmicobafaaTrSome
set_option linter.all false
/- some, at the test of Ends. -/
namespace Go.Proofs.Ytfhlllmicobafaa
open Go.RowKit Go.Shelf
open Tr (Ev ofB)

attribute [local go_sem] Oper.semAt_some

set_option maxRecDepth 100000 in
set_option maxHeartbeats 4000000 in
theorem some_in62 (n : Nat) (hn : 2 ≤ n) (lp Bl Bj Bi : Nat) (v : Value) (job : Int) (l : List Ev) (hl : l.length ≤ 1000000) (Bd : Nat) (is : Ev → Bool) (X : World → Prop) (hX : ∀ A B', X A → Kept (fun _ => False) A B' → X B') (Kp : World → World → Prop) (hKs : ∀ A B', Kp A B' → SKp Bl Bj Bi v l A B') (hKx : ∀ A B', X A → Kp A B' → X B')
    (HIS : Hid (∀ b e W, is e = b → X W → Calls Try.prog 62 #[evV e, .pointer (some ⟨Bd, 0, none⟩)] W fun r W' => r = .returned (.bool b) ∧ Kept (fun _ => False) W W')) (J Jx : List (Nat × Ev) → World → Prop)
    (hJ : ∀ s A B', J s A → Kept (fun _ => False) A B' → J s B')
    (hY : ∀ pre x W, J pre W → pre ++ [x] <+: picks is job l l.length → YieldAt Fence.wide (n - 1) Try.prog lp #[.int .i64 (x.1 : Nat), evV x.2] W fun e W' =>
      (e = .returned (.bool true) ∧ J (pre ++ [x]) W' ∧ Kp W W') ∨ (e = .returned (.bool false) ∧ Jx (pre ++ [x]) W'))
    (W : World) (hB : Boxes W Bl Bj Bi v job (.func (.func 62) #[] #[.pointer (some ⟨Bd, 0, none⟩)]) l) (h0 : J [] W) (hX0 : X W) :
    CallsIn Fence.wide n Try.prog 68 #[.func (.yield lp) #[] #[], .pointer (some ⟨Bl, 0, none⟩), .pointer (some ⟨Bj, 0, none⟩), .pointer (some ⟨Bi, 0, none⟩)] W fun e W' => (∃ v, e = .returned v) ∧
      ((∃ ys, ys = picks is job l l.length ∧ J ys W') ∨ ∃ pre, pre <+: picks is job l l.length ∧ Jx pre W') := by
  have HQ := Lib.hid hB
  have cl := hB.bl.get (j := 0) rfl
  obtain ⟨aa, cap, rfl⟩ := hB.rows.len
  obtain ⟨N, hN⟩ : ∃ N : Nat, N = l.length := ⟨_, rfl⟩
  rw [← hN] at hl HQ hY cl hKs ⊢
  have HN := Lib.hid hN
  have HJ0 := Lib.hid h0
  have HX0 := Lib.hid hX0
  clear hB hN h0 hX0
  refine callsIn_of_wp Try.func68 rfl trivial ?_ rfl
  simp only [Try.ntmps68, List.size_toArray, List.length_cons, List.length_nil, Nat.reduceAdd, Nat.reduceSub, Array.replicate_succ, Array.replicate_zero, List.push_toArray, List.append_toArray, List.nil_append, List.cons_append]
  gi_wp2
  gi_loopw [9] (fun p wr => ∃ (k : Nat) (pre : List (Nat × Ev)), k ≤ N ∧ p = .int .i64 k ∧ pre = picks is job l k ∧ Boxes wr Bl Bj Bi (.slice aa N cap) job (.func (.func 62) #[] #[.pointer (some ⟨Bd, 0, none⟩)]) l ∧ J pre wr ∧ X wr)
    (fun p _ => N - (intOf p).toNat)
  case atStart => exact ⟨0, [], Nat.zero_le _, rfl, rfl, HQ.out, HJ0.out, HX0.out⟩
  case round =>
    clear cl
    obtain ⟨k, pre, hk, rfl, hpre, hB, hj, hx⟩ := hrel
    have HXX := Lib.hid hx
    clear hx
    have HB := Lib.hid hB
    have HJ := Lib.hid hj
    have HP := Lib.hid hpre
    clear hB hj hpre
    obtain ⟨wo, hwo⟩ : ∃ wo : World, wo = wr := ⟨_, rfl⟩
    subst hwo
    by_cases hlt : k < N
    · have hkl : k < l.length := by have := HN.out; omega
      obtain ⟨b0, off, cap', hv, hcp, hb0, hrows⟩ := HB.out.rows.pos (by omega)
      rw [← HN.out] at hv
      injection hv with e1 e2 e3
      subst e1 e3
      have HX := Lib.hid (get_of hkl)
      have hx8 := hrows.ev HX.out
      generalize l[k] = x at HX hx8
      obtain ⟨a0, a1, a2, a3, a4, a5, a6, a7⟩ := hx8
      have HROW := Lib.hid (RowAt.new wo 35 (evC x).toArray)
      have HK0 := Lib.hid ((Kept.refl (fun _ => False) wo).alloc (.cells (evC x).toArray 35))
      have cj := HB.out.bj.get (j := 0) rfl
      have bjl := HB.out.bj.lt
      clear e2 hrows
      cases hof : ofB job x with
      | false =>
        have HNX : Hid (pre = picks is job l (k + 1)) := Lib.hid (by rw [picks_no HX.out (by rw [hof]; simp)]; exact HP.out)
        have HOF := Lib.hid hof
        clear hof
        gi_wp2_with fail
        refine ⟨trivial, fun h => (by cases h), ?_⟩
        refine (callsIn_wide.2 (of_b false x job _ HOF.out)).mono ?_
        rintro e w2 ⟨rfl, K2⟩
        have HK2 := Lib.hid (HK0.out.trans K2 (fun _ _ h => h))
        clear K2 HK0 HROW a0 a1 a2 a3 a4 a5 a6 a7 cj bjl
        gi_wp2
        refine ⟨fun _ h => (by cases h), ?_⟩
        gi_wp2
        refine ⟨fun _ h => (by cases h), ?_⟩
        gi_wp2
        go_roundw
        case rel => exact ⟨k + 1, pre, by omega, by go_num, HNX.out, HB.out.same HK2.out, hJ _ _ _ HJ.out HK2.out, hX _ _ HXX.out HK2.out⟩
        case measure => simp [intOf]; omega
      | true =>
        have HOF := Lib.hid hof
        clear hof
        gi_wp2_with fail
        refine ⟨trivial, fun h => (by cases h), ?_⟩
        refine (callsIn_wide.2 (of_b true x job _ HOF.out)).mono ?_
        rintro e w2 ⟨rfl, K2⟩
        have HK2 := Lib.hid (HK0.out.trans K2 (fun _ _ h => h))
        have HR2 := Lib.hid (HROW.out.same K2)
        clear K2 HK0 HROW a0 a1 a2 a3 a4 a5 a6 a7 cj bjl
        obtain ⟨X, hX⟩ : ∃ X, wo.heap.size = X := ⟨_, rfl⟩
        rw [hX] at HR2 ⊢
        clear hX
        have HB2 := Lib.hid (HB.out.same HK2.out)
        have ci := HB2.out.bi.get (j := 0) rfl
        have bil := HB2.out.bi.lt
        have c0 := HR2.out.get (j := 0) rfl
        have c1 := HR2.out.get (j := 1) rfl
        have c2 := HR2.out.get (j := 2) rfl
        have c3 := HR2.out.get (j := 3) rfl
        have c4 := HR2.out.get (j := 4) rfl
        have c5 := HR2.out.get (j := 5) rfl
        have c6 := HR2.out.get (j := 6) rfl
        have c7 := HR2.out.get (j := 7) rfl
        have hb := HR2.out.lt
        cases his : is x with
        | false =>
          have HNX : Hid (pre = picks is job l (k + 1)) := Lib.hid (by rw [picks_no HX.out (by rw [his]; simp)]; exact HP.out)
          have HI := Lib.hid his
          clear his
          gi_wp2_with fail
          refine ⟨trivial, fun h => (by cases h), ?_⟩
          refine (callsIn_wide.2 (HIS.out false x _ HI.out (hX _ _ HXX.out HK2.out))).mono ?_
          rintro e w3 ⟨rfl, K3⟩
          have HK3 := Lib.hid (HK2.out.trans K3 (fun _ _ h => h))
          clear K3 ci bil c0 c1 c2 c3 c4 c5 c6 c7 hb
          gi_wp2
          refine ⟨fun _ h => (by cases h), ?_⟩
          gi_wp2
          go_roundw
          case rel => exact ⟨k + 1, pre, by omega, by go_num, HNX.out, HB.out.same HK3.out, hJ _ _ _ HJ.out HK3.out, hX _ _ HXX.out HK3.out⟩
          case measure => simp [intOf]; omega
        | true =>
          have HNX : Hid (pre ++ [(k, x)] = picks is job l (k + 1)) := Lib.hid (by rw [picks_yes HX.out HOF.out his, HP.out])
          have HI := Lib.hid his
          clear his
          gi_wp2_with fail
          refine ⟨trivial, fun h => (by cases h), ?_⟩
          refine (callsIn_wide.2 (HIS.out true x _ HI.out (hX _ _ HXX.out HK2.out))).mono ?_
          rintro e w3 ⟨rfl, K3⟩
          have HK3 := Lib.hid (HK2.out.trans K3 (fun _ _ h => h))
          have hR3 := HR2.out.same K3
          clear K3 ci bil c0 c1 c2 c3 c4 c5 c6 c7 hb
          have c0 := hR3.get (j := 0) rfl
          have c1 := hR3.get (j := 1) rfl
          have c2 := hR3.get (j := 2) rfl
          have c3 := hR3.get (j := 3) rfl
          have c4 := hR3.get (j := 4) rfl
          have c5 := hR3.get (j := 5) rfl
          have c6 := hR3.get (j := 6) rfl
          have c7 := hR3.get (j := 7) rfl
          have hb := hR3.lt
          clear hR3
          obtain ⟨fn, tmps, assign, body, hyy, hR⟩ := hY pre (k, x) w3 (hJ _ _ _ HJ.out HK3.out) (by rw [HNX.out]; exact picks_prefix is job l (by omega))
          gi_wp2
          refine ⟨fun h => (by cases h), ?_⟩
          refine hR.mono ?_
          rintro e W3 (⟨rfl, hJ3, hk3⟩ | ⟨rfl, hJx3⟩)
          · have HB3 := Lib.hid ((HB.out.same HK3.out).skp (hKs _ _ hk3))
            have HX3 := Lib.hid (hKx _ _ (hX _ _ HXX.out HK3.out) hk3)
            clear hk3
            gi_wp2
            go_roundw
            case rel => exact ⟨k + 1, _, by omega, by go_num, HNX.out, HB3.out, hJ3, HX3.out⟩
            case measure => simp [intOf]; omega
          · gi_wp2
            refine bodyPost_ret (results_none rfl _ _ _) rfl ?_
            exact ⟨⟨_, rfl⟩, .inr ⟨_, by rw [HNX.out]; exact picks_prefix is job l (by omega), hJx3⟩⟩
    · obtain rfl : k = N := by omega
      gi_wp2
      go_end0
      exact ⟨⟨_, rfl⟩, .inl ⟨pre, HP.out, HJ.out⟩⟩
end Go.Proofs.Ytfhlllmicobafaa
