/- WiW5: texts for the statements of this seat: contracts of functions, walks, plain laws. Conditions: none. -/
import Derived.Test.YtelgknecainlfaaWiW4
set_option linter.all false
/- both, Bound (both packages), early, Same. -/
namespace Go.Proofs.Ytelgknecainlfaa
open Go.RowKit
open Wi (vld Srt chk limB limE inS longE)

noncomputable def bothE (T U : Int) (l : List Int) : Int := if limE T U ≠ 0 then 16 else chk l
theorem limE_cases (T U : Int) : limE T U = 0 ∨ limE T U = 16 := by
  unfold limE
  split
  · exact .inl rfl
  · exact .inr rfl
theorem limE_ok {T U : Int} (h : limE T U = 0) : (0 ≤ T ∧ T ≤ 68719476736) ∧ (0 ≤ U ∧ U ≤ 68719476736) ∧ (0 < T ∨ U = 0) := by
  unfold limE at h
  split at h
  · rename_i q
    unfold limB at q
    simp only [Bool.and_eq_true, Bool.or_eq_true, decide_eq_true_eq] at q
    exact ⟨Wi.inS_iff.1 q.1.1, Wi.inS_iff.1 q.1.2, q.2⟩
  · cases h
def BothPost (T U : Int) (l : List Int) (w : World) (e : Ending) (w' : World) : Prop := e = .returned (.int .i64 (bothE T U l)) ∧ Kept (fun _ => False) w w'
theorem both34_c {w : World} {v : Value} {l : List Int} (h : Ints w v l) (hl : l.length ≤ 4611686018427387904) (T U : Int) : Calls Try.prog 34 #[.agg #[.int .i64 T, .int .i64 U], v] w (BothPost T U l w) := by
  have HK0 : Hid (∀ t, Kept (fun _ => False) w (w.alloc (.cells #[.int .i64 T, .int .i64 U] t))) := Lib.hid fun t => (Kept.refl _ _).alloc _
  have HL := Lib.hid (fun W => limit_c T U W)
  have HC := Lib.hid (fun W K => check_c (w := W) (h.same K) hl)
  obtain ⟨a, cap, rfl⟩ := h.len
  clear h hl
  rcases limE_cases T U with hz | hz
  · have HE : Hid (bothE T U l = chk l) := Lib.hid (by unfold bothE; rw [if_neg (by simp [hz])])
    have HZ := Lib.hid hz
    clear hz
    go_enter Try.func34, Try.ntmps34
    go_wp2_with (go_at_call 37; fail)
    refine (HL.out _).mono ?_
    rintro e w1 ⟨rfl, K1⟩
    rw [HZ.out]
    have HK1 := Lib.hid ((HK0.out _).trans K1 (fun _ _ h => h))
    go_wp2_with (go_at_call 31; fail)
    refine (HC.out _ HK1.out).mono ?_
    rintro e w2 ⟨rfl, K2⟩
    rw [← HE.out]
    go_wp2
    go_ret
    exact ⟨rfl, HK1.out.trans K2 (fun _ _ h => h)⟩
  · have HE : Hid (bothE T U l = 16) := Lib.hid (by unfold bothE; rw [if_pos (by rw [hz]; decide)])
    have HZ := Lib.hid hz
    clear hz
    go_enter Try.func34, Try.ntmps34
    go_wp2_with (go_at_call 37; fail)
    refine (HL.out _).mono ?_
    rintro e w1 ⟨rfl, K1⟩
    rw [HZ.out]
    go_wp2
    go_ret
    exact ⟨by rw [HE.out]; rfl, (HK0.out _).trans K1 (fun _ _ h => h)⟩
theorem both35_c {w : World} {v : Value} {l : List Int} (h : Ints w v l) (hl : l.length ≤ 4611686018427387904) (T U : Int) : Calls Try.prog 35 #[.agg #[.int .i64 T, .int .i64 U], v] w (BothPost T U l w) := by
  have HK0 : Hid (∀ t, Kept (fun _ => False) w (w.alloc (.cells #[.int .i64 T, .int .i64 U] t))) := Lib.hid fun t => (Kept.refl _ _).alloc _
  have HL := Lib.hid (fun W => rlimit_c T U W)
  have HC := Lib.hid (fun W K => rcheck_c (w := W) (h.same K) hl)
  obtain ⟨a, cap, rfl⟩ := h.len
  clear h hl
  rcases limE_cases T U with hz | hz
  · have HE : Hid (bothE T U l = chk l) := Lib.hid (by unfold bothE; rw [if_neg (by simp [hz])])
    have HZ := Lib.hid hz
    clear hz
    go_enter Try.func35, Try.ntmps35
    go_wp2_with (go_at_call 39; fail)
    refine (HL.out _).mono ?_
    rintro e w1 ⟨rfl, K1⟩
    rw [HZ.out]
    have HK1 := Lib.hid ((HK0.out _).trans K1 (fun _ _ h => h))
    go_wp2_with (go_at_call 32; fail)
    refine (HC.out _ HK1.out).mono ?_
    rintro e w2 ⟨rfl, K2⟩
    rw [← HE.out]
    go_wp2
    go_ret
    exact ⟨rfl, HK1.out.trans K2 (fun _ _ h => h)⟩
  · have HE : Hid (bothE T U l = 16) := Lib.hid (by unfold bothE; rw [if_pos (by rw [hz]; decide)])
    have HZ := Lib.hid hz
    clear hz
    go_enter Try.func35, Try.ntmps35
    go_wp2_with (go_at_call 39; fail)
    refine (HL.out _).mono ?_
    rintro e w1 ⟨rfl, K1⟩
    rw [HZ.out]
    go_wp2
    go_ret
    exact ⟨by rw [HE.out]; rfl, (HK0.out _).trans K1 (fun _ _ h => h)⟩
/-- Bound. -/
def boundE (T U n : Int) : Int := if limE T U ≠ 0 then 16 else if T = 0 then 5 else longE n
def boundF (T U n : Int) : Int := if boundE T U n = 0 then (n + U) / T + 1 else 0
def BoundPost (T U n : Int) (w : World) (e : Ending) (w' : World) : Prop := e = .returned (.tuple #[.int .i64 (boundF T U n), .int .i64 (boundE T U n)]) ∧ Kept (fun _ => False) w w'
theorem longE_cases (n : Int) : (longE n = 0 ∧ 0 ≤ n ∧ n ≤ 68719476736) ∨ (longE n = 2 ∧ (n < 0 ∨ 68719476736 < n)) := by
  unfold longE
  split
  · rename_i h
    simp only [Bool.or_eq_true, decide_eq_true_eq] at h
    exact .inr ⟨rfl, h⟩
  · rename_i h
    simp only [Bool.or_eq_true, decide_eq_true_eq] at h
    exact .inl ⟨rfl, by omega, by omega⟩
theorem quo_bd {x T : Int} (hx : 0 ≤ x) (hT : 0 < T) : Int.tdiv x T = x / T ∧ 0 ≤ x / T ∧ x / T ≤ x := by
  refine ⟨Int.tdiv_eq_ediv_of_nonneg hx, Int.ediv_nonneg hx (by omega), Int.ediv_le_self _ hx⟩
set_option maxHeartbeats 1000000 in
theorem bound_c (T U n : Int) (w : World) : Calls Try.prog 19 #[.agg #[.int .i64 T, .int .i64 U], .int .i64 n] w (BoundPost T U n w) := by
  have row := RowAt.new w 23 #[.int .i64 T, .int .i64 U]
  have HROW := Lib.hid row
  have HK0 := Lib.hid ((Kept.refl (fun _ => False) w).alloc (.cells #[.int .i64 T, .int .i64 U] 23))
  have HL := Lib.hid (fun W => limit_c T U W)
  clear row
  rcases limE_cases T U with hz | hz
  · obtain ⟨⟨t1, t2⟩, ⟨u1, u2⟩, hTU⟩ := limE_ok hz
    have HZ := Lib.hid hz
    have HE0 : Hid (boundE T U n = if T = 0 then 5 else longE n) := Lib.hid (by unfold boundE; rw [if_neg (by simp [hz])])
    clear hz hTU
    go_enter Try.func19, Try.ntmps19
    go_wp2_with (go_at_call 37; fail)
    refine (HL.out _).mono ?_
    rintro e w1 ⟨rfl, K1⟩
    rw [HZ.out]
    have c0 := (HROW.out.same K1).get (j := 0) rfl
    have c1 := (HROW.out.same K1).get (j := 1) rfl
    have HK1 := Lib.hid (HK0.out.trans K1 (fun _ _ h => h))
    clear K1
    cases hT : decide (T = 0) with
    | true =>
      have HE : Hid (boundE T U n = 5 ∧ boundF T U n = 0) := Lib.hid (by
        have e : boundE T U n = 5 := by rw [HE0.out, if_pos (of_decide_eq_true hT)]
        exact ⟨e, by unfold boundF; rw [if_neg (by rw [e]; decide)]⟩)
      have hb : (T == 0) = true := hT
      go_wp2
      go_ret2
      exact ⟨by rw [HE.out.1, HE.out.2]; rfl, HK1.out⟩
    | false =>
      have hT0 : ¬ T = 0 := of_decide_eq_false hT
      rw [if_neg hT0] at HE0
      have hb : (T == 0) = false := hT
      rcases longE_cases n with ⟨hl, n0, n1⟩ | ⟨hl, -⟩
      · have HLN := Lib.hid hl
        have e : boundE T U n = 0 := by rw [HE0.out]; exact hl
        have HE : Hid (boundE T U n = 0 ∧ boundF T U n = (n + U) / T + 1) := Lib.hid ⟨e, by unfold boundF; rw [if_pos e]⟩
        obtain ⟨q1, q2, q3⟩ := quo_bd (x := n + U) (T := T) (by omega) (by omega)
        clear e hl
        go_wp2_with (go_at_call 38; refine (long_c n _).mono ?_; rintro e w2 ⟨rfl, rfl⟩; rw [HLN.out])
        go_ret2
        exact ⟨by rw [HE.out.1, HE.out.2]; rfl, HK1.out⟩
      · have HLN := Lib.hid hl
        have e : boundE T U n = 2 := by rw [HE0.out]; exact hl
        have HE : Hid (boundE T U n = 2 ∧ boundF T U n = 0) := Lib.hid ⟨e, by unfold boundF; rw [if_neg (by rw [e]; decide)]⟩
        clear e hl
        go_wp2_with (go_at_call 38; refine (long_c n _).mono ?_; rintro e w2 ⟨rfl, rfl⟩; rw [HLN.out])
        go_ret2
        exact ⟨by rw [HE.out.1, HE.out.2]; rfl, HK1.out⟩
  · have e : boundE T U n = 16 := by unfold boundE; rw [if_pos (by rw [hz]; decide)]
    have HE : Hid (boundE T U n = 16 ∧ boundF T U n = 0) := Lib.hid ⟨e, by unfold boundF; rw [if_neg (by rw [e]; decide)]⟩
    have HZ := Lib.hid hz
    clear hz e
    go_enter Try.func19, Try.ntmps19
    go_wp2_with (go_at_call 37; fail)
    refine (HL.out _).mono ?_
    rintro e w1 ⟨rfl, K1⟩
    rw [HZ.out]
    go_wp2
    go_ret2
    exact ⟨by rw [HE.out.1, HE.out.2]; rfl, HK0.out.trans K1 (fun _ _ h => h)⟩
set_option maxHeartbeats 1000000 in
theorem rbound_c (T U n : Int) (w : World) : Calls Try.prog 20 #[.agg #[.int .i64 T, .int .i64 U], .int .i64 n] w (BoundPost T U n w) := by
  have row := RowAt.new w 23 #[.int .i64 T, .int .i64 U]
  have HROW := Lib.hid row
  have HK0 := Lib.hid ((Kept.refl (fun _ => False) w).alloc (.cells #[.int .i64 T, .int .i64 U] 23))
  have HL := Lib.hid (fun W => rlimit_c T U W)
  clear row
  rcases limE_cases T U with hz | hz
  · obtain ⟨⟨t1, t2⟩, ⟨u1, u2⟩, hTU⟩ := limE_ok hz
    have HZ := Lib.hid hz
    have HE0 : Hid (boundE T U n = if T = 0 then 5 else longE n) := Lib.hid (by unfold boundE; rw [if_neg (by simp [hz])])
    clear hz hTU
    go_enter Try.func20, Try.ntmps20
    go_wp2_with (go_at_call 39; fail)
    refine (HL.out _).mono ?_
    rintro e w1 ⟨rfl, K1⟩
    rw [HZ.out]
    have c0 := (HROW.out.same K1).get (j := 0) rfl
    have c1 := (HROW.out.same K1).get (j := 1) rfl
    have HK1 := Lib.hid (HK0.out.trans K1 (fun _ _ h => h))
    clear K1
    cases hT : decide (T = 0) with
    | true =>
      have HE : Hid (boundE T U n = 5 ∧ boundF T U n = 0) := Lib.hid (by
        have e : boundE T U n = 5 := by rw [HE0.out, if_pos (of_decide_eq_true hT)]
        exact ⟨e, by unfold boundF; rw [if_neg (by rw [e]; decide)]⟩)
      have hb : (T == 0) = true := hT
      go_wp2
      go_ret2
      exact ⟨by rw [HE.out.1, HE.out.2]; rfl, HK1.out⟩
    | false =>
      have hT0 : ¬ T = 0 := of_decide_eq_false hT
      rw [if_neg hT0] at HE0
      have hb : (T == 0) = false := hT
      rcases longE_cases n with ⟨hl, n0, n1⟩ | ⟨hl, hor⟩
      · have HLN := Lib.hid hl
        have e : boundE T U n = 0 := by rw [HE0.out]; exact hl
        have HE : Hid (boundE T U n = 0 ∧ boundF T U n = (n + U) / T + 1) := Lib.hid ⟨e, by unfold boundF; rw [if_pos e]⟩
        obtain ⟨q1, q2, q3⟩ := quo_bd (x := n + U) (T := T) (by omega) (by omega)
        clear e hl
        go_wp2
        go_ret2
        exact ⟨by rw [HE.out.1, HE.out.2]; rfl, HK1.out⟩
      · have HLN := Lib.hid hl
        have e : boundE T U n = 2 := by rw [HE0.out]; exact hl
        have HE : Hid (boundE T U n = 2 ∧ boundF T U n = 0) := Lib.hid ⟨e, by unfold boundF; rw [if_neg (by rw [e]; decide)]⟩
        clear e hl
        by_cases hn0 : n < 0
        · go_wp2
          go_ret2
          exact ⟨by rw [HE.out.1, HE.out.2]; rfl, HK1.out⟩
        · have hn1 : 68719476736 < n := by omega
          go_wp2
          go_ret2
          exact ⟨by rw [HE.out.1, HE.out.2]; rfl, HK1.out⟩
  · have e : boundE T U n = 16 := by unfold boundE; rw [if_pos (by rw [hz]; decide)]
    have HE : Hid (boundE T U n = 16 ∧ boundF T U n = 0) := Lib.hid ⟨e, by unfold boundF; rw [if_neg (by rw [e]; decide)]⟩
    have HZ := Lib.hid hz
    clear hz e
    go_enter Try.func20, Try.ntmps20
    go_wp2_with (go_at_call 39; fail)
    refine (HL.out _).mono ?_
    rintro e w1 ⟨rfl, K1⟩
    rw [HZ.out]
    go_wp2
    go_ret2
    exact ⟨by rw [HE.out.1, HE.out.2]; rfl, HK0.out.trans K1 (fun _ _ h => h)⟩
theorem take_step {l m : List Int} {j : Nat} (h1 : j < l.length) (h2 : j < m.length) (h : l.take j = m.take j) : (l[j] = m[j] → l.take (j + 1) = m.take (j + 1)) ∧ (l[j] ≠ m[j] → l ≠ m) := by
  refine ⟨fun e => ?_, fun e q => ?_⟩
  · rw [List.take_add_one, List.take_add_one, List.getElem?_eq_getElem h1, List.getElem?_eq_getElem h2, h, e]
  · subst q; exact e rfl
set_option maxHeartbeats 1000000 in
theorem same_c {w : World} {va vb : Value} {l m : List Int} (ha : Ints w va l) (hb : Ints w vb m) (h63 : l.length ≤ 4611686018427387904) (g63 : m.length ≤ 4611686018427387904) :
    Calls Try.prog 21 #[va, vb] w fun e w' => e = .returned (.bool (decide (l = m))) ∧ Kept (fun _ => False) w w' := by
  have HA := Lib.hid ha
  have HB := Lib.hid hb
  obtain ⟨aa, ca, rfl⟩ := ha.len
  obtain ⟨ab, cb, rfl⟩ := hb.len
  obtain ⟨n, hn⟩ : ∃ n : Nat, n = l.length := ⟨_, rfl⟩
  obtain ⟨k, hk⟩ : ∃ n : Nat, n = m.length := ⟨_, rfl⟩
  rw [← hn] at h63 HA ⊢
  rw [← hk] at g63 HB ⊢
  have HN := Lib.hid hn
  have HK := Lib.hid hk
  clear ha hb hn hk
  by_cases hnk : n = k
  · subst hnk
    go_enter Try.func21, Try.ntmps21
    go_wp2
    go_loopw [5] (fun i wr => ∃ j : Nat, j ≤ n ∧ i = .int .i64 j ∧ l.take j = m.take j ∧ Kept (fun _ => False) w wr) (fun i _ => match i with | .int _ x => (n - x).toNat | _ => 0)
    case atStart => exact ⟨0, Nat.zero_le _, rfl, rfl, Kept.refl _ _⟩
    case round =>
      obtain ⟨j, hj, rfl, hc, K⟩ := hrel
      have HKK := Lib.hid K
      have HC := Lib.hid hc
      clear K hc
      by_cases hlt : j < n
      · have hjl : j < l.length := by have := HN.out; omega
        have hjm : j < m.length := by have := HK.out; omega
        obtain ⟨b0, off, cap', hv, hb0, hcell⟩ := (HA.out.same HKK.out).pos (by omega)
        rw [← HN.out] at hv
        injection hv with e1 e2 e3
        subst e1 e3
        obtain ⟨b1, off1, cap1, hv, hb1, hcell1⟩ := (HB.out.same HKK.out).pos (by omega)
        rw [← HK.out] at hv
        injection hv with e1 e2 e3
        subst e1 e3
        have c0 := IntsK.at hcell hjl
        have d0 := IntsK.at hcell1 hjm
        have HT := Lib.hid (take_step hjl hjm HC.out)
        clear hcell hcell1
        generalize l[j] = x at c0 HT
        generalize m[j] = y at d0 HT
        by_cases hx : x = y
        · subst hx
          have HR := Lib.hid (HT.out.1 rfl)
          go_wp2
          go_quiet (fail)
          go_wp2
          go_roundw
          case rel => exact ⟨j + 1, by omega, by go_num, HR.out, HKK.out.drewN _⟩
          case measure => simp; omega
        · have HR : Hid (decide (l = m) = false) := Lib.hid (by simpa using HT.out.2 hx)
          have hb1 : (x == y) = false := by simpa using hx
          have hb2 : (x != y) = true := by simpa using hx
          go_wp2
          go_quiet (fail)
          go_wp2
          go_ret
          exact ⟨by rw [HR.out]; rfl, HKK.out.drewN _⟩
      · obtain rfl : n = j := by omega
        have HR : Hid (decide (l = m) = true) := Lib.hid (by
          have h1 := HC.out
          rw [List.take_of_length_le (by have := HN.out; omega), List.take_of_length_le (by have := HK.out; omega)] at h1
          simpa using h1)
        go_wp2
        go_ret
        exact ⟨by rw [HR.out]; rfl, HKK.out⟩
  · have HR : Hid (decide (l = m) = false) := Lib.hid (by
      simp only [decide_eq_false_iff_not]
      intro e
      exact hnk (by rw [HN.out, HK.out, e]))
    have hne : ((n : Int) != (k : Int)) = true := by simp; omega
    go_enter Try.func21, Try.ntmps21
    go_wp2
    go_ret
    exact ⟨by rw [HR.out]; rfl, Kept.refl _ _⟩
/-- Too early. -/
def early (T U n d : Int) : Bool := decide (0 < T) && decide (d + U < n * T)
theorem early_c (T U : Int) (n d : Int) (w : World) (hT : 0 ≤ T ∧ T ≤ 68719476736) (hU : 0 ≤ U ∧ U ≤ 68719476736) (hn : 0 ≤ n ∧ n ≤ 100000) (hd : -300000000000 ≤ d ∧ d ≤ 300000000000) :
    Calls Try.prog 36 #[.agg #[.int .i64 T, .int .i64 U], .int .i64 n, .int .i64 d] w fun e w' => e = .returned (.bool (early T U n d)) ∧ Kept (fun _ => False) w w' := by
  have HK0 : Hid (∀ t, Kept (fun _ => False) w (w.alloc (.cells #[.int .i64 T, .int .i64 U] t))) := Lib.hid fun t => (Kept.refl _ _).alloc _
  have hm : 0 ≤ n * T ∧ n * T ≤ 100000 * 68719476736 := ⟨Int.mul_nonneg hn.1 hT.1, Int.mul_le_mul hn.2 hT.2 hT.1 (by omega)⟩
  obtain ⟨p, hp⟩ : ∃ p, n * T = p := ⟨_, rfl⟩
  rw [hp] at hm
  have hw : wrap64 (n * T) = p := by rw [hp]; exact IntWalk.wrap64_in _ (by omega)
  have hw2 : IntKind.i64.wrap (n * T) = p := by rw [hp]; exact IntWalk.i64_in _ (by omega)
  by_cases h0 : 0 < T
  · by_cases h1 : d + U < p
    · have HE : Hid (early T U n d = true) := Lib.hid (by unfold early; rw [hp, decide_eq_true h0, decide_eq_true h1]; rfl)
      go_enter Try.func36, Try.ntmps36
      go_wp2
      go_ret
      exact ⟨by rw [HE.out]; rfl, HK0.out _⟩
    · have HE : Hid (early T U n d = false) := Lib.hid (by unfold early; rw [hp, decide_eq_true h0, decide_eq_false h1]; rfl)
      go_enter Try.func36, Try.ntmps36
      go_wp2
      go_ret
      exact ⟨by rw [HE.out]; rfl, HK0.out _⟩
  · have HE : Hid (early T U n d = false) := Lib.hid (by unfold early; rw [decide_eq_false h0]; rfl)
    go_enter Try.func36, Try.ntmps36
    go_wp2
    go_ret
    exact ⟨by rw [HE.out]; rfl, HK0.out _⟩
end Go.Proofs.Ytelgknecainlfaa
