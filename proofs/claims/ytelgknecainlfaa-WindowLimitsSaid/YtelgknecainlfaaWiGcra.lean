/- The limiter that Fits uses: its functions. -/
import Derived.Test.YtelgknecainlfaaWiWorks
namespace Go.Proofs.Ytelgknecainlfaa
open Go.RowKit
open Wi (vld Srt chk limB limE inS longE)

theorem isTime_c (t : Int) (w : World) : Calls Try.prog 51 #[.int .i64 t] w fun e w' => e = .returned (.bool (vld t)) ∧ w = w' := by
  by_cases h1 : 0 ≤ t
  · by_cases h2 : t ≤ 253402300799
    all_goals
      go_enter Try.func51, Try.ntmps51
      go_wp2
      go_ret
      exact ⟨by simp [vld, h1, h2], rfl⟩
  · go_enter Try.func51, Try.ntmps51
    go_wp2
    go_ret
    exact ⟨by simp [vld]; omega, rfl⟩
theorem isTime_b (b : Bool) (t : Int) (w : World) (h : vld t = b) : Calls Try.prog 51 #[.int .i64 t] w fun e w' => e = .returned (.bool b) ∧ w = w' := h ▸ isTime_c t w
theorem in68_c (x : Int) (w : World) : Calls Try.prog 68 #[.int .i64 x] w fun e w' => e = .returned (.bool (inS x)) ∧ w = w' := by
  by_cases h1 : 0 ≤ x
  · by_cases h2 : x ≤ 68719476736
    all_goals
      go_enter Try.func68, Try.ntmps68
      go_wp2
      go_ret
      exact ⟨by simp [inS, h1, h2], rfl⟩
  · go_enter Try.func68, Try.ntmps68
    go_wp2
    go_ret
    exact ⟨by simp [inS]; omega, rfl⟩
theorem in68_b (b : Bool) (x : Int) (w : World) (h : inS x = b) : Calls Try.prog 68 #[.int .i64 x] w fun e w' => e = .returned (.bool b) ∧ w = w' := h ▸ in68_c x w
set_option maxHeartbeats 4000000 in
theorem gvalid_c (T U : Int) (w : World) : Calls Try.prog 63 #[.agg #[.int .i64 T, .int .i64 U]] w fun e w' => e = .returned (.bool (limB T U)) ∧ Kept (fun _ => False) w w' := by
  have HK : Hid (∀ t, Kept (fun _ => False) w (w.alloc (.cells #[.int .i64 T, .int .i64 U] t))) := Lib.hid fun t => (Kept.refl _ _).alloc _
  cases hT : inS T with
  | false =>
    have HT := Lib.hid hT
    have HE : Hid (limB T U = false) := Lib.hid (by unfold limB; rw [hT]; rfl)
    clear hT
    go_enter Try.func63, Try.ntmps63
    go_wp2_with (go_at_call 68; refine (in68_b false T _ HT.out).mono ?_; rintro e w' ⟨rfl, rfl⟩)
    go_ret
    exact ⟨by rw [HE.out]; rfl, HK.out _⟩
  | true =>
    cases hU : inS U with
    | false =>
      have HT := Lib.hid hT
      have HU := Lib.hid hU
      have HE : Hid (limB T U = false) := Lib.hid (by unfold limB; rw [hT, hU]; rfl)
      clear hT hU
      go_enter Try.func63, Try.ntmps63
      go_wp2_with (go_at_call 68; fail)
      refine (in68_b true T _ HT.out).mono ?_
      rintro e w' ⟨rfl, rfl⟩
      go_wp2_with (go_at_call 68; fail)
      refine (in68_b false U _ HU.out).mono ?_
      rintro e w' ⟨rfl, rfl⟩
      go_wp2
      go_ret
      exact ⟨by rw [HE.out]; rfl, HK.out _⟩
    | true =>
      have HT := Lib.hid hT
      have HU := Lib.hid hU
      have hT0 : 0 ≤ T := (Wi.inS_iff.1 hT).1
      by_cases h0 : 0 < T
      · have HE : Hid (limB T U = true) := Lib.hid (by unfold limB; rw [hT, hU, decide_eq_true h0]; rfl)
        clear hT hU
        go_enter Try.func63, Try.ntmps63
        go_wp2_with (go_at_call 68; fail)
        refine (in68_b true T _ HT.out).mono ?_
        rintro e w' ⟨rfl, rfl⟩
        go_wp2_with (go_at_call 68; fail)
        refine (in68_b true U _ HU.out).mono ?_
        rintro e w' ⟨rfl, rfl⟩
        go_wp2
        go_ret
        exact ⟨by rw [HE.out]; rfl, HK.out _⟩
      · by_cases h1 : U = 0
        · subst h1
          have HE : Hid (limB T 0 = true) := Lib.hid (by unfold limB; rw [hT, hU]; simp)
          clear hT hU
          go_enter Try.func63, Try.ntmps63
          go_wp2_with (go_at_call 68; fail)
          refine (in68_b true T _ HT.out).mono ?_
          rintro e w' ⟨rfl, rfl⟩
          go_wp2_with (go_at_call 68; fail)
          refine (in68_b true 0 _ HU.out).mono ?_
          rintro e w' ⟨rfl, rfl⟩
          go_wp2
          go_ret
          exact ⟨by rw [HE.out]; rfl, HK.out _⟩
        · obtain rfl : T = 0 := by omega
          have HE : Hid (limB 0 U = false) := Lib.hid (by unfold limB; rw [hT, hU, decide_eq_false h0, decide_eq_false h1]; rfl)
          have h1' : (U == 0) = false := by simpa using h1
          clear hT hU
          go_enter Try.func63, Try.ntmps63
          go_wp2_with (go_at_call 68; fail)
          refine (in68_b true 0 _ HT.out).mono ?_
          rintro e w' ⟨rfl, rfl⟩
          go_wp2_with (go_at_call 68; fail)
          refine (in68_b true U _ HU.out).mono ?_
          rintro e w' ⟨rfl, rfl⟩
          go_wp2
          go_ret
          exact ⟨by rw [HE.out]; rfl, HK.out _⟩
/-- A limiter's row. -/
abbrev lmr (sm : Bool) (tat last T U : Int) : List Value := [.bool sm, .int .i64 tat, .int .i64 last, .int .i64 T, .int .i64 U, .bool true]
set_option maxRecDepth 100000 in
set_option maxHeartbeats 4000000 in
theorem new_good {T U : Int} (h : limB T U = true) (w : World) : Calls Try.prog 50 #[.agg #[.int .i64 T, .int .i64 U]] w fun e w' => ∃ B, w.heap.size ≤ B ∧ e = .returned (.tuple #[.pointer (some ⟨B, 0, none⟩), .int .i64 0]) ∧ RowAt w' B (lmr false 0 0 T U) ∧ Kept (fun _ => False) w w' := by
  have HV := Lib.hid (fun W => gvalid_c T U W)
  rw [h] at HV
  have HROW := Lib.hid (RowAt.new w 23 #[.int .i64 T, .int .i64 U])
  have HK0 := Lib.hid ((Kept.refl (fun _ => False) w).alloc (.cells #[.int .i64 T, .int .i64 U] 23))
  have HSZ : Hid (w.heap.size ≤ (w.alloc (.cells #[.int .i64 T, .int .i64 U] 23)).heap.size) := Lib.hid (by simp)
  clear h
  go_enter Try.func50, Try.ntmps50
  go_upto_region 1 with fail
  generalize hbe : w.heap.size = b at HROW HSZ ⊢
  have HBE := Lib.hid hbe
  clear hbe
  generalize w.alloc (.cells #[.int .i64 T, .int .i64 U] 23) = w0 at HROW HK0 HSZ ⊢
  have c0 := HROW.out.get (j := 0) rfl
  have c1 := HROW.out.get (j := 1) rfl
  have hb := HROW.out.lt
  go_wp2_with (go_at_call 63; fail)
  refine (HV.out _).mono ?_
  rintro e w1 ⟨rfl, K⟩
  have HK1 := Lib.hid (HK0.out.trans K (fun _ _ h => h))
  have HR1 := Lib.hid (HROW.out.same K)
  have HS1 := Lib.hid (Nat.le_trans HSZ.out K.size)
  clear K c0 c1 hb
  have c0 := HR1.out.get (j := 0) rfl
  have c1 := HR1.out.get (j := 1) rfl
  have hb := HR1.out.lt
  go_wp2
  go_ret2
  exact ⟨w1.heap.size, by rw [HBE.out]; exact HS1.out, rfl, RowAt.new w1 74 _, HK1.out.alloc _⟩
set_option maxRecDepth 100000 in
set_option maxHeartbeats 4000000 in
theorem new_bad {T U : Int} (h : limB T U = false) (w : World) : Calls Try.prog 50 #[.agg #[.int .i64 T, .int .i64 U]] w fun e w' => e = .returned (.tuple #[.pointer none, .int .i64 16]) ∧ Kept (fun _ => False) w w' := by
  have HV := Lib.hid (fun W => gvalid_c T U W)
  rw [h] at HV
  have HROW := Lib.hid (RowAt.new w 23 #[.int .i64 T, .int .i64 U])
  have HK0 := Lib.hid ((Kept.refl (fun _ => False) w).alloc (.cells #[.int .i64 T, .int .i64 U] 23))
  clear h
  go_enter Try.func50, Try.ntmps50
  go_upto_region 1 with fail
  generalize w.heap.size = b at HROW ⊢
  generalize w.alloc (.cells #[.int .i64 T, .int .i64 U] 23) = w0 at HROW HK0 ⊢
  have c0 := HROW.out.get (j := 0) rfl
  have c1 := HROW.out.get (j := 1) rfl
  have hb := HROW.out.lt
  go_wp2_with (go_at_call 63; fail)
  refine (HV.out _).mono ?_
  rintro e w1 ⟨rfl, K⟩
  go_wp2
  go_ret2
  exact ⟨rfl, HK0.out.trans K (fun _ _ h => h)⟩
/-- Whether the limiter says that a launch is early. -/
def erlB (sm : Bool) (tat T U now : Int) : Bool := decide (0 < T) && sm && decide (now < tat - U)
set_option maxRecDepth 100000 in
set_option maxHeartbeats 4000000 in
theorem gearly_c {w : World} {B : Nat} {sm : Bool} {tat last T U now : Int} (h : RowAt w B (lmr sm tat last T U)) (ht : 0 ≤ tat ∧ tat ≤ 9000000000000000) (hU : 0 ≤ U ∧ U ≤ 68719476736) : Calls Try.prog 53 #[.pointer (some ⟨B, 0, none⟩), .int .i64 now] w fun e w' => e = .returned (.bool (erlB sm tat T U now)) ∧ Kept (fun _ => False) w w' := by
  have c0 := h.get (j := 0) rfl
  have c1 := h.get (j := 1) rfl
  have c2 := h.get (j := 2) rfl
  have c3 := h.get (j := 3) rfl
  have c4 := h.get (j := 4) rfl
  have hlt := h.lt
  have hw : IntKind.i64.wrap (tat - U) = tat - U := IntWalk.i64_in _ (by omega)
  clear h
  by_cases h1 : 0 < T
  · have hd1 : decide (0 < T) = true := decide_eq_true h1
    cases sm with
    | true =>
      by_cases h2 : now < tat - U
      · have hd2 : decide (now < tat - U) = true := decide_eq_true h2
        have HE : Hid (erlB true tat T U now = true) := Lib.hid (by unfold erlB; rw [hd1, hd2]; rfl)
        go_enter Try.func53, Try.ntmps53
        go_wp2
        go_quiet (fail)
        go_wp2
        go_ret
        exact ⟨by rw [HE.out]; rfl, (Kept.refl _ _).drewN _⟩
      · have hd2 : decide (now < tat - U) = false := decide_eq_false h2
        have HE : Hid (erlB true tat T U now = false) := Lib.hid (by unfold erlB; rw [hd1, hd2]; rfl)
        go_enter Try.func53, Try.ntmps53
        go_wp2
        go_quiet (fail)
        go_wp2
        go_ret
        exact ⟨by rw [HE.out]; rfl, (Kept.refl _ _).drewN _⟩
    | false =>
      have HE : Hid (erlB false tat T U now = false) := Lib.hid (by unfold erlB; rw [hd1]; rfl)
      go_enter Try.func53, Try.ntmps53
      go_wp2
      go_quiet (fail)
      go_wp2
      go_ret
      exact ⟨by rw [HE.out]; rfl, (Kept.refl _ _).drewN _⟩
  · have hd1 : decide (0 < T) = false := decide_eq_false h1
    have HE : Hid (erlB sm tat T U now = false) := Lib.hid (by unfold erlB; rw [hd1]; rfl)
    go_enter Try.func53, Try.ntmps53
    go_wp2
    go_quiet (fail)
    go_wp2
    go_ret
    exact ⟨by rw [HE.out]; rfl, (Kept.refl _ _).drewN _⟩
set_option maxRecDepth 100000 in
set_option maxHeartbeats 4000000 in
theorem count_c {w : World} {B : Nat} {sm : Bool} {tat last T U now : Int} (h : RowAt w B (lmr sm tat last T U)) (ht : 0 ≤ tat ∧ tat ≤ 9000000000000000) (hT : 0 ≤ T ∧ T ≤ 68719476736) (hn : 0 ≤ now ∧ now ≤ 253402300799) : Calls Try.prog 54 #[.pointer (some ⟨B, 0, none⟩), .int .i64 now] w fun e w' => e = .returned (.tuple #[]) ∧ RowAt w' B (lmr true (max now tat + T) now T U) ∧ Kept (fun b => b = B) w w' := by
  have c0 := h.get (j := 0) rfl
  have c1 := h.get (j := 1) rfl
  have c2 := h.get (j := 2) rfl
  have c3 := h.get (j := 3) rfl
  have c4 := h.get (j := 4) rfl
  have f0 := h.fz 0
  have f1 := h.fz 1
  have f2 := h.fz 2
  have hlt := h.lt
  have hw : IntKind.i64.wrap (max now tat + T) = max now tat + T := IntWalk.i64_in _ (by omega)
  have HH := Lib.hid h
  clear h
  have HF : Hid (∀ m : Int, m = max now tat → RowAt (((w.setCell ⟨B, 1, none⟩ (.int .i64 (m + T))).setCell ⟨B, 2, none⟩ (.int .i64 now)).setCell ⟨B, 0, none⟩ (.bool true)).drew B (lmr true (max now tat + T) now T U) ∧ Kept (fun b => b = B) w (((w.setCell ⟨B, 1, none⟩ (.int .i64 (m + T))).setCell ⟨B, 2, none⟩ (.int .i64 now)).setCell ⟨B, 0, none⟩ (.bool true)).drew) := Lib.hid fun m hm => by
    subst hm
    exact ⟨((((HH.out.set (j := 1) (by simp) _).set (j := 2) (by simp) _).set (j := 0) (by simp) _).same (Kept.refl (fun _ => False) _).drew : RowAt _ B _), ((((Kept.refl (fun b => b = B) w).setCell _ _ (fun _ => rfl)).setCell _ _ (fun _ => rfl)).setCell _ _ (fun _ => rfl)).drew⟩
  go_enter Try.func54, Try.ntmps54
  go_wp2
  go_region
  all_goals go_wp2
  all_goals
    refine bodyPost_end (results_none rfl _ _ _) rfl ?_
    exact ⟨rfl, (HF.out _ (by omega)).1, (HF.out _ (by omega)).2⟩
set_option maxRecDepth 100000 in
set_option maxHeartbeats 4000000 in
theorem launch_no {w : World} {B G : Nat} {sm : Bool} {tat last T U now : Int} (h : RowAt w B (lmr sm tat last T U)) (hG : w.cell? ⟨G, 0, none⟩ = some (.pointer (some ⟨B, 0, none⟩))) (ht : 0 ≤ tat ∧ tat ≤ 9000000000000000) (hU : 0 ≤ U ∧ U ≤ 68719476736) (hE : erlB sm tat T U now = true) : Calls Try.prog 52 #[.int .i64 now, .pointer (some ⟨G, 0, none⟩)] w fun e w' => e = .returned (.bool false) ∧ Kept (fun _ => False) w w' := by
  have HC := Lib.hid (gearly_c (now := now) h ht hU)
  rw [hE] at HC
  have hlt := h.lt
  have hlt2 := World.block_lt_of_cell? _ _ hG
  clear h
  go_enter Try.func52, Try.ntmps52
  go_wp2_with (go_at_call 53; fail)
  refine HC.out.mono ?_
  rintro e w1 ⟨rfl, K⟩
  go_wp2
  go_ret
  exact ⟨rfl, K⟩
set_option maxRecDepth 100000 in
set_option maxHeartbeats 4000000 in
theorem launch_yes {w : World} {B G : Nat} {sm : Bool} {tat last T U now : Int} (h : RowAt w B (lmr sm tat last T U)) (hG : w.cell? ⟨G, 0, none⟩ = some (.pointer (some ⟨B, 0, none⟩))) (ht : 0 ≤ tat ∧ tat ≤ 9000000000000000) (hT : 0 ≤ T ∧ T ≤ 68719476736) (hU : 0 ≤ U ∧ U ≤ 68719476736) (hn : 0 ≤ now ∧ now ≤ 253402300799) (hE : erlB sm tat T U now = false) : Calls Try.prog 52 #[.int .i64 now, .pointer (some ⟨G, 0, none⟩)] w fun e w' => e = .returned (.bool true) ∧ RowAt w' B (lmr true (max now tat + T) now T U) ∧ Kept (fun b => b = B) w w' := by
  have HC := Lib.hid (gearly_c (now := now) h ht hU)
  rw [hE] at HC
  have hlt := h.lt
  have hlt2 := World.block_lt_of_cell? _ _ hG
  have HH := Lib.hid h
  clear h
  go_enter Try.func52, Try.ntmps52
  go_wp2_with (go_at_call 53; fail)
  refine HC.out.mono ?_
  rintro e w1 ⟨rfl, K⟩
  have g1 : w1.cell? ⟨G, 0, none⟩ = some (.pointer (some ⟨B, 0, none⟩)) := (K.cell (a := ⟨G, 0, none⟩) hlt2 (fun h => h)).trans hG
  have hlt3 : B < w1.heap.size := Nat.lt_of_lt_of_le hlt K.size
  have HC2 := Lib.hid (count_c (now := now) (HH.out.same K) ht hT hn)
  have HK := Lib.hid K
  clear K hG
  go_wp2_with (go_at_call 54; fail)
  refine HC2.out.mono ?_
  rintro e w2 ⟨rfl, hr, K2⟩
  go_wp2
  go_ret
  exact ⟨rfl, hr, (HK.out.mono (fun _ _ h => h.elim)).trans K2 (fun _ _ h => h)⟩
end Go.Proofs.Ytelgknecainlfaa
