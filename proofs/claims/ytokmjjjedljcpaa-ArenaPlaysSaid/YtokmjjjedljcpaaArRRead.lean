/- ArRRead: texts for the statements of this seat: contracts of functions, walks, plain laws. Conditions: none. -/
import Derived.Test.YtokmjjjedljcpaaArRModel
import Derived.Test.YtokmjjjedljcpaaArLiveA
set_option linter.all false
/- Get, Live, Len, Room of the document's arena. -/
namespace Go.Proofs.Ytokmjjjedljcpaa
open Go.RowKit
theorem Try.info53 : (Try.prog.info? 53).map (fun i => (i.zero, i.size, i.bytes)) = some (some (.int .i64 0), 1, 8) := by kernel_rfl
theorem el79 : ElemOk Try.prog 79 53 1 8 := .mk' Try.underlying79 Try.info53 rfl (by decide)
set_option maxHeartbeats 1000000 in
theorem rget_c {w : World} {base rb : Nat} {v1 v2 v3 v4 : Value} {a : AA} (h : IsR w base rb v1 v2 v3 v4 a) (ok : AOk a) {hh v : Int} {b : Bool} (hp : a.get hh = (v, b)) : Calls Try.prog 38 #[.pointer (some ⟨rb, 0, none⟩), .int .i64 hh] w fun e w' => e = .returned (.tuple #[.int .i64 v, .bool b]) ∧ Kept (fun _ => False) w w' := by
  have HF := Lib.hid (rfind_c h ok hh)
  have HI := Lib.hid h
  unfold AA.get at hp
  cases hf : a.find hh with
  | none =>
    rw [hf] at hp
    injection hp with e1 e2
    subst e1 e2
    have ha : a.at_ hh = -1 := by unfold AA.at_; rw [hf]
    rw [ha] at HF
    clear h ok hf ha
    go_enter Try.func38, Try.ntmps38
    go_wp2_with (go_at_call 34; fail)
    refine HF.out.mono ?_
    rintro e w1 ⟨rfl, K⟩
    have HK := Lib.hid K
    clear K
    go_wp2
    go_ret2
    exact ⟨rfl, HK.out⟩
  | some p =>
    obtain ⟨k, s⟩ := p
    rw [hf] at hp
    injection hp with e1 e2
    subst e1 e2
    have ha : a.at_ hh = (k : Int) := by unfold AA.at_; rw [hf]
    obtain ⟨hs, -, -⟩ := find_hit hf
    rw [ha] at HF
    have hl := ok.len
    have hkl := (List.getElem?_eq_some_iff.1 hs).1
    clear h ok hf ha
    go_enter Try.func38, Try.ntmps38
    go_wp2_with (go_at_call 34; fail)
    refine HF.out.mono ?_
    rintro e w1 ⟨rfl, K⟩
    have h1 := HI.out.same K
    have HK := Lib.hid K
    obtain ⟨g, c, rfl, hc, u0, -, hk, -⟩ := own_cell h1.vs (k := k) (u := .int .i64 s.v) (by rw [List.getElem?_map, hs]; rfl)
    have c3 := h1.hd.get (j := 3) rfl
    have cl := h1.hd.lt
    have i1 : (0 : Int) ≤ (k : Int) := by omega
    have i2 : (k : Int) < (a.sl.length : Int) := by omega
    clear K h1
    go_wp2
    go_ret2
    exact ⟨rfl, HK.out⟩
/-- The handles of the first slots. -/
def liveN (a : AA) (j : Nat) : List Int := ((List.range j).filter fun j => match a.sl[j]? with | some s => s.taken | none => false).map a.hnd
theorem liveN_all (a : AA) : liveN a a.sl.length = a.live := rfl
theorem liveN_yes {a : AA} {j : Nat} {s : U} (hs : a.sl[j]? = some s) (ht : s.taken = true) : liveN a (j + 1) = liveN a j ++ [4096 * s.use + j] := by
  unfold liveN
  rw [List.range_succ, List.filter_append, List.map_append, List.filter_cons_of_pos (by rw [hs]; exact ht)]
  simp [AA.hnd, hs]
theorem liveN_no {a : AA} {j : Nat} {s : U} (hs : a.sl[j]? = some s) (ht : s.taken = false) : liveN a (j + 1) = liveN a j := by
  unfold liveN
  rw [List.range_succ, List.filter_append, List.map_append, List.filter_cons_of_neg (by rw [hs]; simp [ht])]
  simp
theorem liveN_len (a : AA) (j : Nat) : (liveN a j).length ≤ j := by
  unfold liveN
  rw [List.length_map]
  have := List.length_filter_le (fun j => match a.sl[j]? with | some s => s.taken | none => false) (List.range j)
  simpa using this
abbrev HRO (w wk : World) (v : Value) (xs : List Int) : Prop := RO (fun x : Int => [Value.int .i64 x]) 1 53 w wk v xs
set_option maxHeartbeats 1000000 in
theorem rlive_c {w : World} {base rb : Nat} {v1 v2 v3 v4 : Value} {a : AA} (h : IsR w base rb v1 v2 v3 v4 a) (ok : AOk a) : Calls Try.prog 35 #[.pointer (some ⟨rb, 0, none⟩)] w fun e w' => ∃ u, e = .returned u ∧ HRO w w' u a.live := by
  have HI0 := Lib.hid h
  have HO := Lib.hid ok
  obtain ⟨p1, q1, hv1⟩ := own_v h.uses
  obtain ⟨p2, q2, hv2⟩ := own_v h.tks
  subst hv1 hv2
  obtain ⟨n, hn⟩ : ∃ n, a.sl.length = n := ⟨_, rfl⟩
  have HN := Lib.hid hn
  have hnl : n ≤ 4096 := by rw [← hn]; exact ok.len
  rw [hn] at HI0
  have HS0 := Lib.hid (RO.start (fun x : Int => [Value.int .i64 x]) 1 53 w)
  clear h ok hn
  go_enter Try.func35, Try.ntmps35
  go_wp2
  go_loopw [3, 4] (fun su i wr => ∃ (j : Nat) (out : List Int), j ≤ n ∧ i = .int .i64 j ∧ out = liveN a j ∧ out.length ≤ j ∧ HRO w wr su out) (fun _ i _ => match i with | .int _ x => (n - x).toNat | _ => 0)
  case atStart => exact ⟨0, [], Nat.zero_le _, rfl, rfl, Nat.zero_le _, HS0.out⟩
  case round =>
    obtain ⟨j, out, hj, rfl, hout, hol, hro⟩ := hrel
    obtain ⟨ps, cs, rfl⟩ := hro.val
    have HI := Lib.hid (HI0.out.same hro.2.2)
    have HOUT := Lib.hid hout
    obtain ⟨m, hm⟩ : ∃ m, out.length = m := ⟨_, rfl⟩
    have HM := Lib.hid hm
    rw [hm] at hol hro ⊢
    have HRo := Lib.hid hro
    have c1 := HI.out.hd.get (j := 1) rfl
    have c2 := HI.out.hd.get (j := 2) rfl
    have cl := HI.out.hd.lt
    clear hout hm hro
    by_cases hlt : j < n
    · obtain ⟨s, hs⟩ : ∃ s, a.sl[j]? = some s := ⟨_, List.getElem?_eq_getElem (by rw [HN.out]; exact hlt)⟩
      obtain ⟨g2, cc2, hv, hc2, t0, -, -, -⟩ := own_cell HI.out.tks (k := j) (u := .bool s.taken) (by rw [List.getElem?_map, hs]; rfl)
      injection hv with e1 e2 e3
      subst e1 e3
      have HH := Lib.hid (rhandle_c HI.out HO.out hs)
      have HS := Lib.hid hs
      have i1 : (0 : Int) ≤ (j : Int) := by omega
      have i2 : (j : Int) < (n : Int) := by omega
      clear hs e2
      cases ht : s.taken with
      | true =>
        have HNX : Hid (out ++ [4096 * s.use + (j : Int)] = liveN a (j + 1)) := Lib.hid (by rw [HOUT.out, liveN_yes HS.out ht])
        have HOW : Hid (wr.ownsRow w.heap.size 53 1 (.slice ps m cs) m (cellsL (fun x : Int => [Value.int .i64 x]) out)) := Lib.hid (by have := HRo.out.1; rw [HM.out] at this; exact this)
        have HB := Lib.hid HRo.out.2.1
        rw [ht] at t0
        clear ht
        go_wp2_with (go_at_call 32; refine (rmade_c HI.out).mono ?_; rintro e w' ⟨rfl, rfl⟩)
        refine HH.out.mono ?_
        rintro e w' ⟨rfl, rfl⟩
        go_wp2_with (at_builtin; go_loud (refine wpList_app1 el79 rfl (.tmp 25) (.tmp 29) rfl w.heap.size (.slice ps m cs) m (cellsL (fun x : Int => [Value.int .i64 x]) out) rfl HOW.out (news := [.int .i64 (4096 * s.use + (j : Int))]) rfl rfl (by simp [Value.oneCell']) (by unfold maxLen; omega) (by omega) HB.out ?_))
        intro gg cc w5 hown5 K5
        have HKP := Lib.hid (HRo.out.snoc (x := 4096 * s.use + (j : Int)) HM.out hown5 K5)
        clear hown5 K5
        go_wp2
        go_roundw
        case rel => exact ⟨j + 1, out ++ [4096 * s.use + (j : Int)], by omega, by go_num, HNX.out, by rw [List.length_append, List.length_singleton, HM.out]; omega, HKP.out⟩
        case measure => first | (simp; done) | (simp; omega)
      | false =>
        have HNX : Hid (out = liveN a (j + 1)) := Lib.hid (by rw [HOUT.out, liveN_no HS.out ht])
        rw [ht] at t0
        clear ht
        go_wp2_with (go_at_call 32; refine (rmade_c HI.out).mono ?_; rintro e w' ⟨rfl, rfl⟩)
        go_roundw
        case rel => exact ⟨j + 1, out, by omega, by go_num, HNX.out, by rw [HM.out]; omega, HRo.out⟩
        case measure => first | (simp; done) | (simp; omega)
    · obtain rfl : j = n := by omega
      have HFF : Hid (∃ u, Ending.returned (Value.slice ps m cs) = .returned u ∧ HRO w wr u a.live) := Lib.hid ⟨_, rfl, by
        have := HRo.out
        rw [HOUT.out, ← HN.out, liveN_all] at this
        exact this⟩
      go_wp2_with (go_at_call 32; refine (rmade_c HI.out).mono ?_; rintro e w' ⟨rfl, rfl⟩)
      go_ret
      exact HFF.out
theorem rlen_c {w : World} {base rb : Nat} {v1 v2 v3 v4 : Value} {a : AA} (h : IsR w base rb v1 v2 v3 v4 a) (ok : AOk a) : Calls Try.prog 36 #[.pointer (some ⟨rb, 0, none⟩)] w fun e w' => e = .returned (.int .i64 (a.len : Nat)) ∧ Kept (fun _ => False) w w' := by
  have HL := Lib.hid (rlive_c h ok)
  have HE := Lib.hid (AA.live_length a)
  clear h ok
  go_enter Try.func36, Try.ntmps36
  go_wp2_with (go_at_call 35; fail)
  refine HL.out.mono ?_
  rintro e w1 ⟨u, rfl, hu⟩
  obtain ⟨p, c, rfl⟩ := hu.val
  have HK := Lib.hid hu.2.2
  rw [HE.out]
  clear hu
  go_wp2
  go_ret
  exact ⟨rfl, HK.out⟩
/-- Slots that can still be used. -/
def roomN (a : AA) (j : Nat) : Nat := (a.sl.take j).countP fun s => !s.taken && s.use != 2147483648
theorem roomN_succ {a : AA} {j : Nat} {s : U} (hs : a.sl[j]? = some s) : roomN a (j + 1) = roomN a j + (if (!s.taken && s.use != 2147483648) = true then 1 else 0) := by
  unfold roomN
  rw [List.take_add_one, hs, Option.toList_some, List.countP_append]
  simp [List.countP_cons]
set_option maxHeartbeats 1000000 in
theorem rroom_c {w : World} {base rb : Nat} {v1 v2 v3 v4 : Value} {a : AA} (h : IsR w base rb v1 v2 v3 v4 a) (ok : AOk a) : Calls Try.prog 37 #[.pointer (some ⟨rb, 0, none⟩)] w fun e w' => e = .returned (.int .i64 (a.room : Nat)) ∧ Kept (fun _ => False) w w' := by
  have HI := Lib.hid h
  have HO := Lib.hid ok
  obtain ⟨p1, q1, hv1⟩ := own_v h.uses
  obtain ⟨p2, q2, hv2⟩ := own_v h.tks
  subst hv1 hv2
  obtain ⟨n, hn⟩ : ∃ n, a.sl.length = n := ⟨_, rfl⟩
  have HN := Lib.hid hn
  have hnl : n ≤ 4096 := by rw [← hn]; exact ok.len
  rw [hn] at HI
  clear h ok hn
  go_enter Try.func37, Try.ntmps37
  go_wp2
  go_loopw [3, 4] (fun m i wr => ∃ j : Nat, j ≤ n ∧ i = .int .i64 j ∧ m = .int .i64 (roomN a j : Nat) ∧ wr = w) (fun _ i _ => match i with | .int _ x => (n - x).toNat | _ => 0)
  case atStart => exact ⟨0, Nat.zero_le _, rfl, rfl, rfl⟩
  case round =>
    obtain ⟨j, hj, rfl, rfl, hw⟩ := hrel
    have hw2 := hw.symm
    clear hw
    subst hw2
    have c1 := HI.out.hd.get (j := 1) rfl
    have c2 := HI.out.hd.get (j := 2) rfl
    have cl := HI.out.hd.lt
    have hrn : roomN a j ≤ 4096 := by
      unfold roomN
      have := List.countP_le_length (p := fun s : U => !s.taken && s.use != 2147483648) (l := a.sl.take j)
      rw [List.length_take, HN.out] at this
      omega
    by_cases hlt : j < n
    · obtain ⟨s, hs⟩ : ∃ s, a.sl[j]? = some s := ⟨_, List.getElem?_eq_getElem (by rw [HN.out]; exact hlt)⟩
      obtain ⟨g2, cc2, hv, hc2, t0, -, -, -⟩ := own_cell HI.out.tks (k := j) (u := .bool s.taken) (by rw [List.getElem?_map, hs]; rfl)
      injection hv with e1 e2 e3
      subst e1 e3
      obtain ⟨g1, cc1, hv', hc1, u0, -, -, -⟩ := own_cell HI.out.uses (k := j) (u := .int .i64 s.use) (by rw [List.getElem?_map, hs]; rfl)
      injection hv' with e4 e5 e6
      subst e4 e6
      have huse := HO.out.use j s hs
      have hsc := roomN_succ hs
      have i1 : (0 : Int) ≤ (j : Int) := by omega
      have i2 : (j : Int) < (n : Int) := by omega
      have ws : wrap64 ((roomN a j : Int) + 1) = (roomN a j : Int) + 1 := IntWalk.wrap64_in _ (by omega)
      clear hs e2 e5
      cases ht : s.taken with
      | true =>
        have HNX : Hid (roomN a (j + 1) = roomN a j) := Lib.hid (by rw [hsc, ht]; rfl)
        rw [ht] at t0
        clear ht hsc
        go_wp2_with (go_at_call 32; refine (rmade_c HI.out).mono ?_; rintro e w' ⟨rfl, rfl⟩)
        go_roundw
        case rel => exact ⟨j + 1, by omega, by go_num, by rw [HNX.out], trivial⟩
        case measure => first | (simp; done) | (simp; omega)
      | false =>
        rw [ht] at t0
        by_cases hu : s.use < 2147483648
        · have b1 : decide (s.use < 2147483648) = true := decide_eq_true hu
          have HNX : Hid (roomN a (j + 1) = roomN a j + 1) := Lib.hid (by rw [hsc, ht, if_pos (by simp; omega)])
          clear ht hsc hu
          go_wp2_with (go_at_call 32; refine (rmade_c HI.out).mono ?_; rintro e w' ⟨rfl, rfl⟩)
          go_roundw
          case rel => exact ⟨j + 1, by omega, by go_num, by rw [HNX.out]; first | rfl | (rw [ws]; push_cast; rfl) | (push_cast; rfl), trivial⟩
          case measure => first | (simp; done) | (simp; omega)
        · have b1 : decide (s.use < 2147483648) = false := decide_eq_false hu
          have HNX : Hid (roomN a (j + 1) = roomN a j) := Lib.hid (by rw [hsc, ht, if_neg (by simp; omega)]; rfl)
          clear ht hsc hu
          go_wp2_with (go_at_call 32; refine (rmade_c HI.out).mono ?_; rintro e w' ⟨rfl, rfl⟩)
          go_roundw
          case rel => exact ⟨j + 1, by omega, by go_num, by rw [HNX.out], trivial⟩
          case measure => first | (simp; done) | (simp; omega)
    · obtain rfl : j = n := by omega
      have HE : Hid (roomN a j = a.room) := Lib.hid (by unfold roomN AA.room; rw [List.take_of_length_le (by have := HN.out; omega)])
      go_wp2_with (go_at_call 32; refine (rmade_c HI.out).mono ?_; rintro e w' ⟨rfl, rfl⟩)
      go_ret
      exact ⟨by rw [← HE.out]; rfl, Kept.refl _ _⟩
end Go.Proofs.Ytokmjjjedljcpaa
