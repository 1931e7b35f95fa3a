/- TrCtx: texts for the statements of this seat: contracts of functions, walks, plain laws. Conditions: none. -/
import Derived.Test.YtfhlllmicobafaaTrOpen
import Derived.Test.YtfhlllmicobafaaGeAll
import Derived.Test.YtfhlllmicobafaaTrMadeW
import Derived.Test.YtfhlllmicobafaaTrWorks
import Derived.Test.YtfhlllmicobafaaTrRunning
import Derived.Test.YtfhlllmicobafaaTrIdx
import Derived.Test.YtfhlllmicobafaaTrREnds
import Derived.Test.YtfhlllmicobafaaTrPm
import Derived.Test.YtfhlllmicobafaaTrLaun
import Derived.Test.YtfhlllmicobafaaTrRf
import Derived.Test.YtfhlllmicobafaaTrDelay
import Derived.Test.YtfhlllmicobafaaTrPrefix
set_option linter.all false
/- Numbers of 32 bits as an argument, with the room behind them. -/
namespace Go.Proofs.Ytfhlllmicobafaa
open Go.RowKit Go.ChangeShapes Go.WideShapes Go.ChangeAt
section
variable {H : Type} {enc : TypeId × Value → H} {P : Program}
theorem open_cap {t e : TypeId} {k : IntKind} {W : World} {base : Nat} {v : Value} {d : DataW H} {ps : List MemPlace} (ht : P.underlying t = some (.slice e)) (he : P.underlying e = some (.int k)) (hc : P.cellsOf e = 1)
    (hv : Value.okWide P W .any base t v) (h : DataW.Trod enc P W 0 (fun _ => true) true t v d ps) : ∃ p n c, v = .slice p n c ∧ n ≤ c := by
  obtain ⟨a0, len, cap, rfl⟩ := okWide_slice ht hv
  obtain ⟨fuel, hf⟩ := h
  rcases open_ints ht he hc hf with ⟨hcs, hx⟩ | ⟨a, len', cap', zs, hcs, _, hl, hm, hz, hx, hcell, hwz⟩
  · simp [Value.cells] at hcs
    obtain ⟨rfl, rfl, rfl⟩ := hcs
    exact ⟨_, _, _, rfl, Nat.le_refl _⟩
  · simp [Value.cells] at hcs
    obtain ⟨rfl, rfl, rfl⟩ := hcs
    exact ⟨_, _, _, rfl, hl⟩
end
theorem Try.cells79 : Try.prog.cellsOf 79 = 1 := by kernel_rfl
section
variable {H : Type} {enc : TypeId × Value → H}
set_option maxRecDepth 100000 in
theorem open_u32 {W : World} {base : Nat} {v : Value} {d : DataW H} {ps : List MemPlace} (hv : Value.okWide Try.prog W .any base 44 v) (h : DataW.Trod enc Try.prog W 0 (fun _ => true) true 44 v d ps) :
    ∃ xs : List Int, IntsK .u32 W v xs ∧ (∃ p c, v = .slice p xs.length c ∧ xs.length ≤ c) ∧ xs.length ≤ maxLen ∧ Tr.U32 xs := by
  obtain ⟨xs, h1, h2, h3⟩ := open_ints2 Try.underlying44 Try.underlying79 Try.cells79 hv h
  obtain ⟨p, n, c, e, hnc⟩ := open_cap Try.underlying44 Try.underlying79 Try.cells79 hv h
  obtain ⟨q, c2, e2⟩ := h1.len
  rw [e] at e2
  injection e2 with _ e4 _
  subst e4
  refine ⟨xs, h1, ⟨p, c, e, hnc⟩, h2, fun x hx => ?_⟩
  have := h3 x hx
  simp only [Lit.wf, Bool.and_eq_true, decide_eq_true_eq] at this
  have e1 : IntKind.u32.min = 0 := by decide
  have e2 : IntKind.u32.max = 4294967295 := by decide
  omega
end
end Go.Proofs.Ytfhlllmicobafaa
/- Made, for an argument as it comes; what is made is small. -/
namespace Go.Proofs.Ytfhlllmicobafaa
open Go.RowKit
open Tr (Ev)
theorem made_o {w : World} {v : Value} {l : List Int} (h : IntsK .u32 w v l) (hs : ∃ p c, v = .slice p l.length c ∧ l.length ≤ c) (hl : l.length ≤ maxLen) (hu : Tr.U32 l) : Calls Try.prog 29 #[v] w fun e w' => ∃ v', e = .returned v' ∧ ERO w w' v' (Tr.made l) := by
  obtain ⟨p, c, rfl, hc⟩ := hs
  exact made_c h rfl hc hl hu
theorem small_w {t : List Ev} (h : ∀ e ∈ t, Tr.Small e) : EvW t := fun x hx => by
  have := h x hx
  unfold Tr.Small at this
  exact Wf.of (by omega) (by omega)
end Go.Proofs.Ytfhlllmicobafaa
/- Outcomes and ends: what the law of ends compares. -/
namespace Go.Proofs.Ytfhlllmicobafaa
open Go.RowKit
open Tr (Ev ofB)
/-- The test of the law's own function. -/
def lawEnd (k due : Int) (x : Ev) : Bool := (decide (x.job = k) && decide (x.due = due)) && (decide (x.kind = 2) || decide (x.kind = 5))
theorem lawEnd_eq {k : Int} (hk : k ≠ -1) (due : Int) (x : Ev) : lawEnd k due x = (ofB k x && isEndOf due x) := by
  unfold lawEnd isEndOf
  rw [Tr.ofB_job hk]
  cases decide (x.job = k) <;> cases decide (x.due = due) <;> simp
/-- Ends says what IndexFunc finds. -/
theorem ends_idx {l : List Ev} {k due : Int} (hk : k ≠ -1) (h0 : endsC l k due = 0) : (idxF (lawEnd k due) l = -1 ∧ endsR l k due = (0, false)) ∨ ∃ j : Nat, idxF (lawEnd k due) l = (j : Int) ∧ endsR l k due = ((j : Int), true) ∧ j < l.length := by
  have he : endsR l k due = match picks (isEndOf due) k l l.length with
    | [] => (0, false)
    | p :: _ => ((p.1 : Int), true) := by unfold endsR; rw [if_neg (by omega)]; cases picks (isEndOf due) k l l.length <;> rfl
  have hp := picks_all (isEndOf due) k l
  cases hpk : picks (isEndOf due) k l l.length with
  | nil =>
    left
    rw [hpk] at he hp
    refine ⟨idxF_miss fun y hy => ?_, he⟩
    have h2 := List.filter_eq_nil_iff.1 hp.symm y hy
    rw [lawEnd_eq hk]
    simpa using h2
  | cons p r =>
    right
    rw [hpk] at he
    obtain ⟨h1, h2, h3, h4⟩ := picks_mem (p := p) (by rw [hpk]; simp)
    refine ⟨p.1, idxF_hit h2 (by rw [lawEnd_eq hk, h3, h4]; rfl) fun y hy => ?_, he, h1⟩
    cases hb : lawEnd k due y with
    | false => rfl
    | true =>
      exfalso
      rw [lawEnd_eq hk, Bool.and_eq_true] at hb
      obtain ⟨i, hi⟩ := List.getElem?_of_mem hy
      have hip : i < p.1 := by have := (List.getElem?_eq_some_iff.1 hi).1; rw [List.length_take] at this; omega
      rw [List.getElem?_take_of_lt hip] at hi
      have hm := picks_yes (l := l) (k := i) hi hb.1 hb.2
      have hpre := picks_prefix (isEndOf due) k l (k := i + 1) (n := l.length) (by omega)
      rw [hm, hpk] at hpre
      cases hc : picks (isEndOf due) k l i with
      | nil =>
        rw [hc] at hpre
        simp at hpre
        have := hpre
        rw [← this] at hip
        simp at hip
      | cons q s =>
        rw [hc] at hpre
        have hq : q = p := by
          obtain ⟨z, hz⟩ := hpre
          simp at hz
          exact hz.1
        have := (picks_mem (p := q) (l := l) (k := i) (by rw [hc]; simp)).1
        rw [hq] at this
        omega
theorem endsC_ok {l : List Ev} (h : Tr.Ok 64 l) {k due : Int} (hk : 0 ≤ k ∧ k ≤ 63) (hd : 0 ≤ due ∧ due ≤ 253402300799) : endsC l k due = 0 := by
  have : wrongE l k 0 63 = 0 := by unfold wrongE; rw [if_neg (by rw [Tr.bad_zero h]; simp), if_neg (by omega)]
  unfold endsC
  rw [if_neg (by omega), if_neg (by omega)]
theorem wrong_zero {l : List Ev} (h : Tr.Ok 64 l) {n lo hi : Int} (hk : lo ≤ n ∧ n ≤ hi) : wrongE l n lo hi = 0 := by
  unfold wrongE; rw [if_neg (by rw [Tr.bad_zero h]; simp), if_neg (by omega)]
theorem wrong_range {l : List Ev} (h : Tr.Ok 64 l) {n lo hi : Int} (hk : n < lo ∨ hi < n) : wrongE l n lo hi = 3 := by
  unfold wrongE; rw [if_neg (by rw [Tr.bad_zero h]; simp), if_pos hk]
theorem dues_take (k : Int) {l : List Ev} {j : Nat} {x : Ev} (hx : l[j]? = some x) : Tr.dues k (l.take (j + 1)) = if Tr.firstB k x = true then Tr.dues k (l.take j) ++ [x.due] else Tr.dues k (l.take j) := by
  rw [Tr.take_snoc' hx]
  unfold Tr.dues
  rw [List.filter_append, List.map_append]
  by_cases h : Tr.firstB k x = true
  · rw [if_pos h, List.filter_cons_of_pos h]; simp
  · rw [if_neg h, List.filter_cons_of_neg h]; simp
theorem dues_len (k : Int) (l : List Ev) : (Tr.dues k l).length ≤ l.length := by
  unfold Tr.dues
  rw [List.length_map]
  exact List.length_filter_le _ _
theorem dues_bd {l : List Ev} (hs : ∀ e ∈ l, Tr.Small e) (k : Int) : ∀ d ∈ Tr.dues k l, 0 ≤ d ∧ d ≤ 1600 := fun d hd => by
  obtain ⟨x, hx, rfl⟩ := List.mem_map.1 hd
  have := hs x (List.mem_filter.1 hx).1
  unfold Tr.Small at this
  omega
end Go.Proofs.Ytfhlllmicobafaa
/- IsSorted of numbers that do not decrease. -/
namespace Go.Proofs.Ytfhlllmicobafaa
open Go.RowKit
theorem nan72_c (x : Int) (w : World) : Calls Try.prog 72 #[.int .i64 x] w fun e w' => e = .returned (.bool false) ∧ w = w' := by
  go_enter Try.func72, Try.ntmps72
  go_wp2
  go_ret
  exact ⟨rfl, rfl⟩
theorem less60_no (x y : Int) (w : World) (h0 : y ≤ x) : Calls Try.prog 60 #[.int .i64 x, .int .i64 y] w fun e w' => e = .returned (.bool false) ∧ w = w' := by
  have h : ¬ x < y := by omega
  go_enter Try.func60, Try.ntmps60
  go_wp2_with (go_at_call 72; refine (nan72_c _ _).mono ?_; rintro e w' ⟨rfl, rfl⟩)
  go_ret
  exact ⟨by simp [h], rfl⟩
set_option maxHeartbeats 1000000 in
theorem sorted34_c {w : World} {v : Value} {l : List Int} (h : Ints w v l) (hs : l.Pairwise (· ≤ ·)) (hl : l.length ≤ 1000000) : Calls Try.prog 34 #[v] w fun e w' => e = .returned (.bool true) ∧ Kept (fun _ => False) w w' := by
  have HQ := Lib.hid h
  have HS := Lib.hid hs
  obtain ⟨a, cap, rfl⟩ := h.len
  obtain ⟨n, hn⟩ : ∃ n : Nat, n = l.length := ⟨_, rfl⟩
  rw [← hn] at hl ⊢
  have HN := Lib.hid hn
  clear h hn hs
  go_enter Try.func34, Try.ntmps34
  go_wp2
  go_loopw [3] (fun i wr => ∃ j : Nat, j ≤ n ∧ i = .int .i64 ((j : Int) - 1) ∧ Kept (fun _ => False) w wr) (fun i _ => match i with | .int _ x => x.toNat | _ => 0)
  case atStart => exact ⟨n, Nat.le_refl _, rfl, Kept.refl _ _⟩
  case round =>
    obtain ⟨j, hj, rfl, K⟩ := hrel
    have HK := Lib.hid K
    clear K
    by_cases hlt : 2 ≤ j
    · obtain ⟨k, rfl⟩ : ∃ k, j = k + 2 := ⟨j - 2, by omega⟩
      have h1 : k < l.length := by have := HN.out; omega
      have h2 : k + 1 < l.length := by have := HN.out; omega
      obtain ⟨b0, off, cap', hv, hb0, hcell⟩ := (HQ.out.same HK.out).pos (by omega)
      injection hv with e1 e2 e3
      subst e1 e3
      have c0 := hcell k _ (List.getElem?_eq_getElem h1)
      have c1 := hcell (k + 1) _ (List.getElem?_eq_getElem h2)
      have hle : l[k] ≤ l[k + 1] := List.pairwise_iff_getElem.1 HS.out k (k + 1) h1 h2 (by omega)
      clear hcell
      generalize l[k] = x at c0 hle
      generalize l[k + 1] = y at c1 hle
      have e1 : ((k + 2 : Nat) : Int) - 1 = ((k + 1 : Nat) : Int) := by omega
      have e2 : ((k + 1 : Nat) : Int) - 1 = (k : Int) := by omega
      rw [e1]
      have HLT : Hid (x ≤ y) := Lib.hid hle
      clear hle
      have i1 : (0 : Int) ≤ (k : Int) + 1 := by omega
      have i2 : (k : Int) + 1 < (n : Int) := by omega
      have i3 : (0 : Int) ≤ (k : Int) := by omega
      have i5 : (k : Int) + 1 - 1 = (k : Int) := by omega
      have i6 : IntKind.i64.wrap (k : Int) = (k : Int) := IntWalk.i64_in _ (by omega)
      have i4 : (k : Int) < (n : Int) := by omega
      go_wp2
      go_quiet (first | (go_at_call 60; exact Calls.quiet_of_same ((less60_no y x _ HLT.out).mono fun e w' h => ⟨h.1, h.2.symm⟩)))
      go_wp2
      go_roundw
      case rel => exact ⟨k + 1, by omega, by go_num, HK.out.drewN _⟩
      case measure => simp
    · have hneg : ¬ (0 : Int) < (j : Int) - 1 := by omega
      go_wp2
      go_ret
      exact ⟨rfl, HK.out⟩
end Go.Proofs.Ytfhlllmicobafaa
/- The walks of TraceChecks, TraceRuns, TraceTimes. -/
namespace Go.Proofs.Ytfhlllmicobafaa
open Go.RowKit
open Tr (Ev ofB)
theorem few_b {w : World} {a : Option Addr} {n c : Nat} (b : Bool) (h : decide (n ≤ 150) = b) : Calls Try.prog 13 #[.slice a n c] w fun e w' => e = .returned (.bool b) ∧ w = w' := h ▸ few_c
set_option maxRecDepth 100000 in
set_option maxHeartbeats 4000000 in
theorem checks_w {w : World} {v : Value} {l : List Ev} (h : Evs w v l) (hz : Nz v) (hw : EvW l) (jobs : Int) : Calls Try.prog 4 #[v, .int .i64 jobs] w (Tru w) := by
  have HQ := Lib.hid h
  have HZ := Lib.hid hz
  have HW := Lib.hid hw
  obtain ⟨aa, cap, rfl⟩ := h.len
  by_cases hf : l.length ≤ 150
  · have HFW := Lib.hid (few_b (w := w) (a := aa) (c := cap) true (decide_eq_true hf))
    have HCL := Lib.hid (clone20_c h hz (by omega))
    obtain ⟨N, hN⟩ : ∃ N : Nat, N = l.length := ⟨_, rfl⟩
    rw [← hN] at hf HFW HCL HQ ⊢
    have HN := Lib.hid hN
    clear h hw hz hN
    go_enter Try.func4, Try.ntmps4
    go_wp2_with (go_at_call 13; fail)
    refine HFW.out.mono ?_
    rintro e w0 ⟨rfl, rfl⟩
    go_wp2_with (go_at_call 20; fail)
    refine HCL.out.mono ?_
    rintro e w1 ⟨u, rfl, hu⟩
    have HK1 := Lib.hid hu.2.2
    have HU := Lib.hid (hu.rows evC_len)
    have HC1 := Lib.hid (check_c HU.out HW.out (by rw [← HN.out]; omega) jobs)
    obtain ⟨i, hi⟩ : ∃ i, (Tr.check jobs l).1 = i := ⟨_, rfl⟩
    obtain ⟨c, hc⟩ : ∃ c, (Tr.check jobs l).2 = c := ⟨_, rfl⟩
    have HI := Lib.hid hi
    have HCC := Lib.hid hc
    rw [hi, hc] at HC1
    clear hu hi hc HCL HFW HZ
    go_wp2_with (go_at_call 21; fail)
    refine HC1.out.mono ?_
    rintro e w2 ⟨rfl, K2⟩
    have HK2 := Lib.hid (HK1.out.trans K2 (fun _ _ h => h))
    have HU2 := Lib.hid (HU.out.same K2)
    have HC2 := Lib.hid (rcheck_c (HQ.out.same HK2.out) HW.out (by rw [← HN.out]; omega) jobs)
    rw [HI.out, HCC.out] at HC2
    clear K2 HU HC1 HK1
    go_wp2_with (go_at_call 22; fail)
    refine HC2.out.mono ?_
    rintro e w3 ⟨rfl, K3⟩
    have HK3 := Lib.hid (HK2.out.trans K3 (fun _ _ h => h))
    have HEQ := Lib.hid (equal23_c (HU2.out.same K3) (HQ.out.same HK3.out) (by rw [← HN.out]; omega) (by rw [← HN.out]; omega))
    rw [decide_eq_true rfl] at HEQ
    clear K3 HU2 HC2 HK2
    go_wp2_with (go_at_call 23; fail)
    refine HEQ.out.mono ?_
    rintro e w4 ⟨rfl, K4⟩
    have HK4 := Lib.hid (HK3.out.trans K4 (fun _ _ h => h))
    clear K4 HK3 HEQ
    go_wp2_with (go_at_call 14; fail)
    refine (works_c w4).mono ?_
    rintro e w5 ⟨rfl, K5⟩
    have HK5 := Lib.hid (HK4.out.trans K5 (fun _ _ h => h))
    clear K5
    go_wp2
    go_ret
    exact ⟨rfl, HK5.out⟩
  · have HFW := Lib.hid (few_b (w := w) (a := aa) (c := cap) false (decide_eq_false hf))
    clear h hw hz HQ HZ HW
    generalize l.length = N at hf HFW ⊢
    go_enter Try.func4, Try.ntmps4
    go_wp2_with (go_at_call 13; fail)
    refine HFW.out.mono ?_
    rintro e w0 ⟨rfl, rfl⟩
    go_wp2_with (go_at_call 14; fail)
    refine (works_c w).mono ?_
    rintro e w5 ⟨rfl, K5⟩
    have HK5 := Lib.hid K5
    clear K5
    go_wp2
    go_ret
    exact ⟨rfl, HK5.out⟩

set_option maxRecDepth 100000 in
set_option maxHeartbeats 4000000 in
theorem runs_w {w : World} {v : Value} {l : List Ev} (h : Evs w v l) (hw : EvW l) (n job : Int) : Calls Try.prog 3 #[v, .int .i64 n, .int .i64 job] w (Tru w) := by
  have HQ := Lib.hid h
  have HW := Lib.hid hw
  obtain ⟨aa, cap, rfl⟩ := h.len
  by_cases hf : l.length ≤ 150
  · have HFW := Lib.hid (few_b (w := w) (a := aa) (c := cap) true (decide_eq_true hf))
    obtain ⟨c1, hc1⟩ : ∃ c, wrongE l n 0 l.length = c := ⟨_, rfl⟩
    obtain ⟨xs, hxs⟩ : ∃ c, (if wrongE l n 0 l.length = 0 then runs l n.toNat else []) = c := ⟨_, rfl⟩
    obtain ⟨c2, hc2⟩ : ∃ c, (if wrongE l job (-1) 63 = 0 then (mf (picks isEnd job l l.length)).2 else 0) = c := ⟨_, rfl⟩
    obtain ⟨c3, hc3⟩ : ∃ c, wrongE l job (-1) 63 = c := ⟨_, rfl⟩
    have HXL : Hid (xs.length ≤ 1000000) := Lib.hid (by
      rw [← hxs]
      split
      · unfold runs
        rw [List.length_map]
        have := und_len (l.take n.toNat)
        rw [List.length_take] at this
        omega
      · simp)
    have HC1 : Hid (Calls Try.prog 15 #[.slice aa l.length cap, .int .i64 n] w fun e w' => ∃ v, e = .returned (.tuple #[v, .int .i64 c1]) ∧ IRO3 w w' v xs) := Lib.hid ((running_c h hw (by omega) n).mono fun e w' q => by
      obtain ⟨v, q1, q2⟩ := q
      rw [hc1] at q1
      rw [hxs] at q2
      exact ⟨v, q1, q2⟩)
    have HC2 : Hid (∀ W, Kept (fun _ => False) w W → Calls Try.prog 16 #[.slice aa l.length cap, .int .i64 n] W fun e w' => ∃ v, e = .returned (.tuple #[v, .int .i64 c1]) ∧ IRO3 W w' v xs) := Lib.hid fun W K => (rrunning_c (h.same K) hw (by omega) n).mono fun e w' q => by
      obtain ⟨v, q1, q2⟩ := q
      rw [hc1] at q1
      rw [hxs] at q2
      exact ⟨v, q1, q2⟩
    have HC3 : Hid (∀ W, Kept (fun _ => False) w W → Calls Try.prog 17 #[.slice aa l.length cap, .int .i64 job] W fun e w' => e = .returned (.tuple #[.int .i64 c2, .int .i64 c3]) ∧ Kept (fun _ => False) W w') := Lib.hid fun W K => (callsIn_wide.1 (most_in 4 (Nat.le_refl _) (h.same K) hw (by omega) job)).mono fun e w' q => by
      obtain ⟨q1, q2⟩ := q
      rw [hc2, hc3] at q1
      exact ⟨q1, q2⟩
    have HC4 : Hid (∀ W, Kept (fun _ => False) w W → Calls Try.prog 18 #[.slice aa l.length cap, .int .i64 job] W fun e w' => e = .returned (.tuple #[.int .i64 c2, .int .i64 c3]) ∧ Kept (fun _ => False) W w') := Lib.hid fun W K => (rmost_c (h.same K) hw (by omega) job).mono fun e w' q => by
      obtain ⟨q1, q2⟩ := q
      rw [hc2, hc3] at q1
      exact ⟨q1, q2⟩
    clear hc1 hxs hc2 hc3
    obtain ⟨N, hN⟩ : ∃ N : Nat, N = l.length := ⟨_, rfl⟩
    rw [← hN] at hf HFW HQ HC1 HC2 HC3 HC4 ⊢
    have HN := Lib.hid hN
    clear h hw hN
    go_enter Try.func3, Try.ntmps3
    go_wp2_with (go_at_call 13; fail)
    refine HFW.out.mono ?_
    rintro e w0 ⟨rfl, rfl⟩
    go_wp2_with (go_at_call 15; fail)
    refine HC1.out.mono ?_
    rintro e w1 ⟨va, rfl, ha⟩
    have HA := Lib.hid ha.ints
    have HK1 := Lib.hid ha.2.2
    clear ha HC1 HFW
    go_wp2_with (go_at_call 16; fail)
    refine (HC2.out _ HK1.out).mono ?_
    rintro e w2 ⟨vb, rfl, hb⟩
    have HB := Lib.hid hb.ints
    have HA2 := Lib.hid (HA.out.same hb.2.2)
    have HK2 := Lib.hid (HK1.out.trans hb.2.2 (fun _ _ h => h))
    clear hb HC2 HA HK1
    go_wp2_with (go_at_call 17; fail)
    refine (HC3.out _ HK2.out).mono ?_
    rintro e w3 ⟨rfl, K3⟩
    have HK3 := Lib.hid (HK2.out.trans K3 (fun _ _ h => h))
    have HA3 := Lib.hid (HA2.out.same K3)
    have HB3 := Lib.hid (HB.out.same K3)
    clear K3 HA2 HB HK2 HC3
    go_wp2_with (go_at_call 18; fail)
    refine (HC4.out _ HK3.out).mono ?_
    rintro e w4 ⟨rfl, K4⟩
    have HK4 := Lib.hid (HK3.out.trans K4 (fun _ _ h => h))
    have HA4 := Lib.hid (HA3.out.same K4)
    have HB4 := Lib.hid (HB3.out.same K4)
    clear K4 HA3 HB3 HK3 HC4
    have HEQ := Lib.hid (equal19_c HA4.out HB4.out HXL.out HXL.out)
    rw [decide_eq_true rfl] at HEQ
    go_wp2_with (go_at_call 19; fail)
    refine HEQ.out.mono ?_
    rintro e w5 ⟨rfl, q, rfl⟩
    have HK5 := Lib.hid (HK4.out.drewN q)
    clear HEQ HK4
    go_wp2_with (go_at_call 14; fail)
    refine (works_c _).mono ?_
    rintro e w6 ⟨rfl, K6⟩
    have HK6 := Lib.hid (HK5.out.trans K6 (fun _ _ h => h))
    clear K6
    go_wp2
    go_ret
    exact ⟨rfl, HK6.out⟩
  · have HFW := Lib.hid (few_b (w := w) (a := aa) (c := cap) false (decide_eq_false hf))
    clear h hw HQ HW
    generalize l.length = N at hf HFW ⊢
    go_enter Try.func3, Try.ntmps3
    go_wp2_with (go_at_call 13; fail)
    refine HFW.out.mono ?_
    rintro e w0 ⟨rfl, rfl⟩
    go_wp2_with (go_at_call 14; fail)
    refine (works_c w).mono ?_
    rintro e w5 ⟨rfl, K5⟩
    have HK5 := Lib.hid K5
    clear K5
    go_wp2
    go_ret
    exact ⟨rfl, HK5.out⟩

set_option maxRecDepth 100000 in
set_option maxHeartbeats 4000000 in
theorem times_w {w : World} {v : Value} {l : List Ev} (h : Evs w v l) (hw : EvW l) (job : Int) : Calls Try.prog 5 #[v, .int .i64 job] w (Tru w) := by
  have HQ := Lib.hid h
  have HW := Lib.hid hw
  obtain ⟨aa, cap, rfl⟩ := h.len
  by_cases hf : l.length ≤ 150
  · have HFW := Lib.hid (few_b (w := w) (a := aa) (c := cap) true (decide_eq_true hf))
    obtain ⟨xs, hxs⟩ : ∃ c, (if wrongE l job (-1) 63 = 0 then (picks (fun e => e.kind == 1) job l l.length).map (fun p => p.2.t) else []) = c := ⟨_, rfl⟩
    obtain ⟨c2, hc2⟩ : ∃ c, (if wrongE l job (-1) 63 = 0 then dfold (picks isFirst job l l.length) else 0) = c := ⟨_, rfl⟩
    obtain ⟨c3, hc3⟩ : ∃ c, wrongE l job (-1) 63 = c := ⟨_, rfl⟩
    have HXL : Hid (xs.length ≤ 1000000) := Lib.hid (by
      rw [← hxs]
      split
      · rw [List.length_map]
        have := picks_len (fun e => e.kind == 1) job l l.length
        omega
      · simp)
    have HC1 : Hid (Calls Try.prog 24 #[.slice aa l.length cap, .int .i64 job] w fun e w' => ∃ v, e = .returned (.tuple #[v, .int .i64 c3]) ∧ IRO w w' v xs) := Lib.hid ((callsIn_wide.1 (laun_in 4 (Nat.le_refl _) h hw (by omega) job)).mono fun e w' q => by
      obtain ⟨v, q1, q2⟩ := q
      rw [hc3] at q1
      rw [hxs] at q2
      exact ⟨v, q1, q2⟩)
    have HC2 : Hid (∀ W, Kept (fun _ => False) w W → Calls Try.prog 25 #[.slice aa l.length cap, .int .i64 job] W fun e w' => ∃ v, e = .returned (.tuple #[v, .int .i64 c3]) ∧ IRO W w' v xs) := Lib.hid fun W K => (rlaun_c (h.same K) hw (by omega) job).mono fun e w' q => by
      obtain ⟨v, q1, q2⟩ := q
      rw [hc3] at q1
      rw [hxs] at q2
      exact ⟨v, q1, q2⟩
    have HC3 : Hid (∀ W, Kept (fun _ => False) w W → Calls Try.prog 26 #[.slice aa l.length cap, .int .i64 job] W fun e w' => e = .returned (.tuple #[.int .i64 c2, .int .i64 c3]) ∧ Kept (fun _ => False) W w') := Lib.hid fun W K => (callsIn_wide.1 (delay_in 4 (Nat.le_refl _) (h.same K) hw (by omega) job)).mono fun e w' q => by
      obtain ⟨q1, q2⟩ := q
      rw [hc2, hc3] at q1
      exact ⟨q1, q2⟩
    have HC4 : Hid (∀ W, Kept (fun _ => False) w W → Calls Try.prog 27 #[.slice aa l.length cap, .int .i64 job] W fun e w' => e = .returned (.tuple #[.int .i64 c2, .int .i64 c3]) ∧ Kept (fun _ => False) W w') := Lib.hid fun W K => (rdelay_c (h.same K) hw (by omega) job).mono fun e w' q => by
      obtain ⟨q1, q2⟩ := q
      rw [hc2, hc3] at q1
      exact ⟨q1, q2⟩
    clear hxs hc2 hc3
    obtain ⟨N, hN⟩ : ∃ N : Nat, N = l.length := ⟨_, rfl⟩
    rw [← hN] at hf HFW HQ HC1 HC2 HC3 HC4 ⊢
    have HN := Lib.hid hN
    clear h hw hN
    go_enter Try.func5, Try.ntmps5
    go_wp2_with (go_at_call 13; fail)
    refine HFW.out.mono ?_
    rintro e w0 ⟨rfl, rfl⟩
    go_wp2_with (go_at_call 24; fail)
    refine HC1.out.mono ?_
    rintro e w1 ⟨va, rfl, ha⟩
    have HA := Lib.hid ha.ints
    have HK1 := Lib.hid ha.2.2
    clear ha HC1 HFW
    go_wp2_with (go_at_call 25; fail)
    refine (HC2.out _ HK1.out).mono ?_
    rintro e w2 ⟨vb, rfl, hb⟩
    have HB := Lib.hid hb.ints
    have HA2 := Lib.hid (HA.out.same hb.2.2)
    have HK2 := Lib.hid (HK1.out.trans hb.2.2 (fun _ _ h => h))
    clear hb HC2 HA HK1
    go_wp2_with (go_at_call 26; fail)
    refine (HC3.out _ HK2.out).mono ?_
    rintro e w3 ⟨rfl, K3⟩
    have HK3 := Lib.hid (HK2.out.trans K3 (fun _ _ h => h))
    have HA3 := Lib.hid (HA2.out.same K3)
    have HB3 := Lib.hid (HB.out.same K3)
    clear K3 HA2 HB HK2 HC3
    go_wp2_with (go_at_call 27; fail)
    refine (HC4.out _ HK3.out).mono ?_
    rintro e w4 ⟨rfl, K4⟩
    have HK4 := Lib.hid (HK3.out.trans K4 (fun _ _ h => h))
    have HA4 := Lib.hid (HA3.out.same K4)
    have HB4 := Lib.hid (HB3.out.same K4)
    clear K4 HA3 HB3 HK3 HC4
    have HEQ := Lib.hid (equal28_c HA4.out HB4.out HXL.out HXL.out)
    rw [decide_eq_true rfl] at HEQ
    go_wp2_with (go_at_call 28; fail)
    refine HEQ.out.mono ?_
    rintro e w5 ⟨rfl, q, rfl⟩
    have HK5 := Lib.hid (HK4.out.drewN q)
    clear HEQ HK4
    go_wp2_with (go_at_call 14; fail)
    refine (works_c _).mono ?_
    rintro e w6 ⟨rfl, K6⟩
    have HK6 := Lib.hid (HK5.out.trans K6 (fun _ _ h => h))
    clear K6
    go_wp2
    go_ret
    exact ⟨rfl, HK6.out⟩
  · have HFW := Lib.hid (few_b (w := w) (a := aa) (c := cap) false (decide_eq_false hf))
    clear h hw HQ HW
    generalize l.length = N at hf HFW ⊢
    go_enter Try.func5, Try.ntmps5
    go_wp2_with (go_at_call 13; fail)
    refine HFW.out.mono ?_
    rintro e w0 ⟨rfl, rfl⟩
    go_wp2_with (go_at_call 14; fail)
    refine (works_c w).mono ?_
    rintro e w5 ⟨rfl, K5⟩
    have HK5 := Lib.hid K5
    clear K5
    go_wp2
    go_ret
    exact ⟨rfl, HK5.out⟩
end Go.Proofs.Ytfhlllmicobafaa
/- The walk of TraceParts. -/
namespace Go.Proofs.Ytfhlllmicobafaa
open Go.RowKit
open Tr (Ev ofB)
theorem Try.under49 : Try.prog.underlying 49 = some (.array 9 3) := Try.underlying49
theorem iv9_def (xs : List Int) : iv9 xs = xs.map (Value.int .i64) := rfl
set_option maxRecDepth 100000 in
set_option maxHeartbeats 4000000 in
theorem parts_w {w : World} {v : Value} {l : List Ev} (h : Evs w v l) (hz : Nz v) (hw : EvW l) (now : Int) : Calls Try.prog 7 #[v, .int .i64 now] w (Tru w) := by
  have HQ := Lib.hid h
  have HZ := Lib.hid hz
  have HW := Lib.hid hw
  obtain ⟨aa, cap, rfl⟩ := h.len
  by_cases hf : l.length ≤ 150
  · have HFW := Lib.hid (few_b (w := w) (a := aa) (c := cap) true (decide_eq_true hf))
    have hl3 : (tallyC l).length = 9 := by unfold tallyC; split; exact tally_len l; rfl
    obtain ⟨ts, hts⟩ : ∃ ts, tallyC l = ts := ⟨_, rfl⟩
    obtain ⟨c1, hc1⟩ : ∃ c, Tr.bad 64 l = c := ⟨_, rfl⟩
    obtain ⟨c2, hc2⟩ : ∃ c, prefC l now = c := ⟨_, rfl⟩
    obtain ⟨xs, hxs⟩ : ∃ xs, prefL l now = xs := ⟨_, rfl⟩
    have HXL : Hid (xs.length ≤ 1000000) := Lib.hid (by
      rw [← hxs]
      unfold prefL
      split
      · have := List.length_filter_le (fun x : Ev => decide (x.t ≤ now)) l; omega
      · simp)
    rw [hts] at hl3
    obtain ⟨y0, y1, y2, y3, y4, y5, y6, y7, y8, rfl⟩ : ∃ y0 y1 y2 y3 y4 y5 y6 y7 y8 : Int, ts = [y0, y1, y2, y3, y4, y5, y6, y7, y8] := by
      match ts, hl3 with
      | [y0, y1, y2, y3, y4, y5, y6, y7, y8], _ => exact ⟨_, _, _, _, _, _, _, _, _, rfl⟩
    have HC1 : Hid (∀ W, Kept (fun _ => False) w W → Calls Try.prog 30 #[.slice aa l.length cap] W fun e w' => e = .returned (.tuple #[.agg #[.int .i64 y0, .int .i64 y1, .int .i64 y2, .int .i64 y3, .int .i64 y4, .int .i64 y5, .int .i64 y6, .int .i64 y7, .int .i64 y8], .int .i64 c1]) ∧ Kept (fun _ => False) W w') := Lib.hid fun W K => (tally_c (h.same K) hw (by omega)).mono fun e w' q => by
      obtain ⟨q1, q2⟩ := q
      rw [hts, hc1] at q1
      exact ⟨q1, q2⟩
    have HC2 : Hid (∀ W, Kept (fun _ => False) w W → Calls Try.prog 31 #[.slice aa l.length cap] W fun e w' => e = .returned (.tuple #[.agg #[.int .i64 y0, .int .i64 y1, .int .i64 y2, .int .i64 y3, .int .i64 y4, .int .i64 y5, .int .i64 y6, .int .i64 y7, .int .i64 y8], .int .i64 c1]) ∧ Kept (fun _ => False) W w') := Lib.hid fun W K => (rtally_c (h.same K) hw (by omega)).mono fun e w' q => by
      obtain ⟨q1, q2⟩ := q
      rw [hts, hc1] at q1
      exact ⟨q1, q2⟩
    have HC3 : Hid (∀ W, Kept (fun _ => False) w W → Calls Try.prog 32 #[.slice aa l.length cap, .int .i64 now] W fun e w' => ∃ v, e = .returned (.tuple #[v, .int .i64 c2]) ∧ ERO W w' v xs) := Lib.hid fun W K => (prefix_c (h.same K) hz hw (by omega) now).mono fun e w' q => by
      obtain ⟨v, q1, q2⟩ := q
      rw [hc2] at q1
      rw [hxs] at q2
      exact ⟨v, q1, q2⟩
    have HC4 : Hid (∀ W, Kept (fun _ => False) w W → Calls Try.prog 33 #[.slice aa l.length cap, .int .i64 now] W fun e w' => ∃ v, e = .returned (.tuple #[v, .int .i64 c2]) ∧ ERO W w' v xs) := Lib.hid fun W K => (rprefix_c (h.same K) hw (by omega) now).mono fun e w' q => by
      obtain ⟨v, q1, q2⟩ := q
      rw [hc2] at q1
      rw [hxs] at q2
      exact ⟨v, q1, q2⟩
    have HEQ9 := fun W => run_equalIn9 W [y0, y1, y2, y3, y4, y5, y6, y7, y8] [y0, y1, y2, y3, y4, y5, y6, y7, y8] rfl rfl
    simp only [iv9, List.map_cons, List.map_nil, decide_true] at HEQ9
    obtain ⟨N, hN⟩ : ∃ N : Nat, N = l.length := ⟨_, rfl⟩
    rw [← hN] at hf HFW HC1 HC2 HC3 HC4 HQ ⊢
    clear h hw hz hN hl3 hts hc1 hc2 hxs
    go_enter Try.func7, Try.ntmps7
    go_wp2_with (go_at_call 13; fail)
    refine HFW.out.mono ?_
    rintro e w0 ⟨rfl, rfl⟩
    go_wp2_with (go_at_call 30; fail)
    refine (HC1.out _ (Kept.refl _ _)).mono ?_
    rintro e w1 ⟨rfl, K1⟩
    have r1 := RowAt.new w1 49 #[.int .i64 y0, .int .i64 y1, .int .i64 y2, .int .i64 y3, .int .i64 y4, .int .i64 y5, .int .i64 y6, .int .i64 y7, .int .i64 y8]
    have k1 : Kept (fun _ => False) w1 (w1.alloc (.cells #[.int .i64 y0, .int .i64 y1, .int .i64 y2, .int .i64 y3, .int .i64 y4, .int .i64 y5, .int .i64 y6, .int .i64 y7, .int .i64 y8] 49)) := (Kept.refl _ _).alloc _
    have HR1 := Lib.hid r1
    have HK1 := Lib.hid (K1.trans k1 (fun _ _ h => h))
    clear K1 r1 k1 HFW HC1
    go_wp2_with (go_at_call 31; fail)
    refine (HC2.out _ HK1.out).mono ?_
    rintro e w2 ⟨rfl, K2⟩
    have r2 := RowAt.new w2 49 #[.int .i64 y0, .int .i64 y1, .int .i64 y2, .int .i64 y3, .int .i64 y4, .int .i64 y5, .int .i64 y6, .int .i64 y7, .int .i64 y8]
    have k2 : Kept (fun _ => False) w2 (w2.alloc (.cells #[.int .i64 y0, .int .i64 y1, .int .i64 y2, .int .i64 y3, .int .i64 y4, .int .i64 y5, .int .i64 y6, .int .i64 y7, .int .i64 y8] 49)) := (Kept.refl _ _).alloc _
    have HR2 := Lib.hid r2
    have HR12 := Lib.hid ((HR1.out.same K2).same k2)
    have HK2 := Lib.hid ((HK1.out.trans K2 (fun _ _ h => h)).trans k2 (fun _ _ h => h))
    clear K2 r2 k2 HR1 HK1 HC2
    go_wp2_with (go_at_call 32; fail)
    refine (HC3.out _ HK2.out).mono ?_
    rintro e w3 ⟨va, rfl, ha⟩
    have HA := Lib.hid (ha.rows evC_len)
    have HRA := Lib.hid (HR12.out.same ha.2.2)
    have HRB := Lib.hid (HR2.out.same ha.2.2)
    have HK3 := Lib.hid (HK2.out.trans ha.2.2 (fun _ _ h => h))
    clear ha HR2 HR12 HK2 HC3
    go_wp2_with (go_at_call 33; fail)
    refine (HC4.out _ HK3.out).mono ?_
    rintro e w4 ⟨vb, rfl, hb⟩
    have HB := Lib.hid (hb.rows evC_len)
    have HA4 := Lib.hid (HA.out.same hb.2.2)
    have ra := HRA.out.same hb.2.2
    have rb := HRB.out.same hb.2.2
    have HK4 := Lib.hid (HK3.out.trans hb.2.2 (fun _ _ h => h))
    clear hb HA HRA HRB HK3 HC4
    have a0 := ra.get (j := 0) rfl
    have a1 := ra.get (j := 1) rfl
    have a2 := ra.get (j := 2) rfl
    have a3 := ra.get (j := 3) rfl
    have a4 := ra.get (j := 4) rfl
    have a5 := ra.get (j := 5) rfl
    have a6 := ra.get (j := 6) rfl
    have a7 := ra.get (j := 7) rfl
    have a8 := ra.get (j := 8) rfl
    have al := ra.lt
    have b0 := rb.get (j := 0) rfl
    have b1 := rb.get (j := 1) rfl
    have b2 := rb.get (j := 2) rfl
    have b3 := rb.get (j := 3) rfl
    have b4 := rb.get (j := 4) rfl
    have b5 := rb.get (j := 5) rfl
    have b6 := rb.get (j := 6) rfl
    have b7 := rb.get (j := 7) rfl
    have b8 := rb.get (j := 8) rfl
    have bl := rb.lt
    have he4 := HEQ9 w4
    have HEQ := Lib.hid (equal23_c HA4.out HB.out (by have := HXL.out; omega) (by have := HXL.out; omega))
    rw [decide_eq_true rfl] at HEQ
    clear ra rb HA4 HB HEQ9
    go_wp2_with (go_at_call 23; fail)
    refine HEQ.out.mono ?_
    rintro e w5 ⟨rfl, K5⟩
    have HK5 := Lib.hid (HK4.out.trans K5 (fun _ _ h => h))
    clear K5 HEQ HK4 a0 a1 a2 a3 a4 a5 a6 a7 a8 al b0 b1 b2 b3 b4 b5 b6 b7 b8 bl he4
    go_wp2_with (go_at_call 14; fail)
    refine (works_c _).mono ?_
    rintro e w6 ⟨rfl, K6⟩
    have HK6 := Lib.hid (HK5.out.trans K6 (fun _ _ h => h))
    clear K6
    go_wp2
    go_ret
    exact ⟨rfl, HK6.out⟩
  · have HFW := Lib.hid (few_b (w := w) (a := aa) (c := cap) false (decide_eq_false hf))
    clear h hw hz HQ HW HZ
    generalize l.length = N at hf HFW ⊢
    go_enter Try.func7, Try.ntmps7
    go_wp2_with (go_at_call 13; fail)
    refine HFW.out.mono ?_
    rintro e w0 ⟨rfl, rfl⟩
    go_wp2_with (go_at_call 14; fail)
    refine (works_c w).mono ?_
    rintro e w5 ⟨rfl, K5⟩
    have HK5 := Lib.hid K5
    clear K5
    go_wp2
    go_ret
    exact ⟨rfl, HK5.out⟩
end Go.Proofs.Ytfhlllmicobafaa
/- Tally, Prefix, Launches, Delay of a list that is a trace. -/
namespace Go.Proofs.Ytfhlllmicobafaa
open Go.RowKit
open Tr (Ev ofB)
theorem laun_eq (k : Int) (t : List Ev) : (picks (fun e => e.kind == 1) k t t.length).map (fun p => p.2.t) = Tr.launL k t := by
  have h := picks_all (fun e => e.kind == 1) k t
  have e : (picks (fun e => e.kind == 1) k t t.length).map (fun p => p.2.t) = ((picks (fun e => e.kind == 1) k t t.length).map (·.2)).map (·.t) := by rw [List.map_map]; rfl
  rw [e, h]
  unfold Tr.launL
  congr 1
  apply List.filter_congr
  intro x _
  rw [show (x.kind == 1) = decide (x.kind = 1) from rfl]
  cases ofB k x <;> simp
theorem delay_eq (k : Int) (t : List Ev) : dfold (picks isFirst k t t.length) = Tr.delay k t := by
  have h1 : dfold (picks isFirst k t t.length) = ((picks isFirst k t t.length).map (·.2)).foldl (fun (m : Int) (x : Ev) => max m (x.t - x.due)) 0 := by unfold dfold; rw [List.foldl_map]
  rw [h1, picks_all, List.foldl_filter]
  unfold Tr.delay
  congr 1
  funext m x
  unfold Tr.dstep isFirst
  cases ofB k x <;> cases decide (x.kind = 1) <;> cases decide (x.att = 1) <;> simp
theorem laun_made {W : World} {v : Value} {t : List Ev} (h : Evs W v t) (hok : Tr.Ok 64 t) (hw : EvW t) (hl : t.length ≤ 200) {k : Int} (hk : -1 ≤ k ∧ k ≤ 63) :
    Calls Try.prog 24 #[v, .int .i64 k] W fun e w' => ∃ u, e = .returned (.tuple #[u, .int .i64 0]) ∧ IRO W w' u (Tr.launL k t) :=
  (callsIn_wide.1 (laun_in 4 (Nat.le_refl _) h hw (by omega) k)).mono fun e w' q => by
    obtain ⟨u, q1, q2⟩ := q
    rw [wrong_zero hok hk] at q1 q2
    rw [if_pos rfl, laun_eq] at q2
    exact ⟨u, q1, q2⟩
theorem laun_range {W : World} {v : Value} {t : List Ev} (h : Evs W v t) (hok : Tr.Ok 64 t) (hw : EvW t) (hl : t.length ≤ 200) {k : Int} (hk : k < -1 ∨ 63 < k) :
    Calls Try.prog 24 #[v, .int .i64 k] W fun e w' => ∃ u, e = .returned (.tuple #[u, .int .i64 3]) ∧ Kept (fun _ => False) W w' :=
  (callsIn_wide.1 (laun_in 4 (Nat.le_refl _) h hw (by omega) k)).mono fun e w' q => by
    obtain ⟨u, q1, q2⟩ := q
    rw [wrong_range hok hk] at q1
    exact ⟨u, q1, q2.2.2⟩
theorem delay_made {W : World} {v : Value} {t : List Ev} (h : Evs W v t) (hok : Tr.Ok 64 t) (hw : EvW t) (hl : t.length ≤ 200) {k : Int} (hk : -1 ≤ k ∧ k ≤ 63) :
    Calls Try.prog 26 #[v, .int .i64 k] W fun e w' => e = .returned (.tuple #[.int .i64 (Tr.delay k t), .int .i64 0]) ∧ Kept (fun _ => False) W w' :=
  (callsIn_wide.1 (delay_in 4 (Nat.le_refl _) h hw (by omega) k)).mono fun e w' q => by
    obtain ⟨q1, q2⟩ := q
    rw [wrong_zero hok hk, if_pos rfl, delay_eq] at q1
    exact ⟨q1, q2⟩
theorem delay_range {W : World} {v : Value} {t : List Ev} (h : Evs W v t) (hok : Tr.Ok 64 t) (hw : EvW t) (hl : t.length ≤ 200) {k : Int} (hk : k < -1 ∨ 63 < k) :
    Calls Try.prog 26 #[v, .int .i64 k] W fun e w' => e = .returned (.tuple #[.int .i64 0, .int .i64 3]) ∧ Kept (fun _ => False) W w' :=
  (callsIn_wide.1 (delay_in 4 (Nat.le_refl _) h hw (by omega) k)).mono fun e w' q => by
    obtain ⟨q1, q2⟩ := q
    rw [wrong_range hok hk, if_neg (by decide)] at q1
    exact ⟨q1, q2⟩
theorem tally_nine (l : List Ev) : tally l = [(Tr.cntK 0 l : Int), (Tr.cntK 1 l : Int), (Tr.cntK 2 l : Int), (Tr.cntK 3 l : Int), (Tr.cntK 4 l : Int), (Tr.cntK 5 l : Int), (Tr.cntK 6 l : Int), (Tr.cntK 7 l : Int), (Tr.cntK 8 l : Int)] := rfl
theorem tallyC_ok {l : List Ev} (h : Tr.Ok 64 l) : tallyC l = tally l := by unfold tallyC; rw [if_pos (Tr.bad_zero h)]
theorem tally_made {W : World} {v : Value} {t : List Ev} (h : Evs W v t) (hok : Tr.Ok 64 t) (hw : EvW t) (hl : t.length ≤ 200) {y0 y1 y2 y3 y4 y5 y6 y7 y8 : Int} (hy : tally t = [y0, y1, y2, y3, y4, y5, y6, y7, y8]) :
    Calls Try.prog 30 #[v] W fun e w' => e = .returned (.tuple #[.agg #[.int .i64 y0, .int .i64 y1, .int .i64 y2, .int .i64 y3, .int .i64 y4, .int .i64 y5, .int .i64 y6, .int .i64 y7, .int .i64 y8], .int .i64 0]) ∧ Kept (fun _ => False) W w' :=
  (tally_c h hw (by omega)).mono fun e w' q => by
    obtain ⟨q1, q2⟩ := q
    rw [tallyC_ok hok, hy, Tr.bad_zero hok] at q1
    exact ⟨q1, q2⟩
theorem iro_slice {w w' : World} {v : Value} {xs : List Int} (h : IRO w w' v xs) : ∃ p c, v = .slice p xs.length c := h.val
theorem prefix_made {W : World} {v : Value} {t : List Ev} (h : Evs W v t) (hz : Nz v) (hok : Tr.Ok 64 t) (hw : EvW t) (hl : t.length ≤ 200) {now : Int} (hn : 0 ≤ now ∧ now ≤ 253402300799) :
    Calls Try.prog 32 #[v, .int .i64 now] W fun e w' => ∃ u, e = .returned (.tuple #[u, .int .i64 0]) ∧ ERO W w' u (t.filter fun x => decide (x.t ≤ now)) :=
  (prefix_c h hz hw (by omega) now).mono fun e w' q => by
    obtain ⟨u, q1, q2⟩ := q
    have h0 := prefC_ok (now := now) (Tr.bad_zero hok) (by omega)
    rw [h0] at q1
    rw [prefL_ok h0] at q2
    exact ⟨u, q1, q2⟩
theorem prefix_range {W : World} {v : Value} {t : List Ev} (h : Evs W v t) (hz : Nz v) (hok : Tr.Ok 64 t) (hw : EvW t) (hl : t.length ≤ 200) {now : Int} (hn : now < 0 ∨ 253402300799 < now) :
    Calls Try.prog 32 #[v, .int .i64 now] W fun e w' => ∃ u, e = .returned (.tuple #[u, .int .i64 14]) ∧ Kept (fun _ => False) W w' :=
  (prefix_c h hz hw (by omega) now).mono fun e w' q => by
    obtain ⟨u, q1, q2⟩ := q
    rw [prefC_now (now := now) (Tr.bad_zero hok) hn] at q1
    exact ⟨u, q1, q2.2.2⟩
theorem ero_nz {w w' : World} {v : Value} {t : List Ev} (h : ERO w w' v t) : Nz v := fun n c e => by
  rcases h.1.2 with ⟨q, h0⟩ | ⟨g, cap, cur, q, -⟩
  · rw [q] at e; injection e with _ e2 e3; omega
  · rw [q] at e; cases e
theorem ero_some {w w' : World} {v : Value} {t : List Ev} (h : ERO w w' v t) : (v = .slice none 0 0 ∧ t = []) ∨ ∃ g c, v = .slice (some ⟨g, 0, none⟩) t.length c ∧ t.length ≤ c ∧ w.heap.size ≤ g ∧ g < w'.heap.size := by
  rcases h.1.2 with ⟨q, h0⟩ | ⟨g, cap, cur, q, h1, _, h2, -⟩
  · exact .inl ⟨q, List.eq_nil_of_length_eq_zero h0⟩
  · have := (ownsRow_block h.1 (b := g) (by rw [q]; rfl)).2
    exact .inr ⟨g, cap, q, h2, h1, this⟩
end Go.Proofs.Ytfhlllmicobafaa
/- The ranges of small numbers as arguments. -/
namespace Go.Proofs.Ytfhlllmicobafaa
open Go.RowKit Go.ChangeShapes
theorem u16_rng {n : Int} (h : (Lit.int .u16 n).wf = true) : 0 ≤ n ∧ n ≤ 65535 := by
  simp only [Lit.wf, Bool.and_eq_true, decide_eq_true_eq] at h
  have e1 : IntKind.u16.min = 0 := by decide
  have e2 : IntKind.u16.max = 65535 := by decide
  omega
theorem u8_rng {n : Int} (h : (Lit.int .u8 n).wf = true) : 0 ≤ n ∧ n ≤ 255 := by
  simp only [Lit.wf, Bool.and_eq_true, decide_eq_true_eq] at h
  have e1 : IntKind.u8.min = 0 := by decide
  have e2 : IntKind.u8.max = 255 := by decide
  omega
end Go.Proofs.Ytfhlllmicobafaa
