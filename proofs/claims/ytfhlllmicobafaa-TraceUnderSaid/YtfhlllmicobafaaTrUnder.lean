/- TrUnder: texts for the statements of this seat: contracts of functions, walks, plain laws. Conditions: none. -/
import Derived.Test.YtfhlllmicobafaaTrMap
import Derived.Test.YtfhlllmicobafaaGeAll
import Derived.Test.YtfhlllmicobafaaTrPl
set_option linter.all false
/- Under of the reference. -/
namespace Go.Proofs.Ytfhlllmicobafaa
open Go.RowKit
open Tr (Ev)

theorem Try.info35 : (Try.prog.info? 35).map (fun i => (i.zero, i.size, i.bytes)) = some (some (evV ev0), 8, 64) := by kernel_rfl
theorem el22 : ElemOk Try.prog 22 35 8 64 := .mk' Try.underlying22 Try.info35 rfl (by decide)
abbrev ERO := RO evC 8 35
def UnderPost (w : World) (p : List Ev) (r : Ending) (w' : World) : Prop := ∃ v, r = .returned v ∧ ERO w w' v (Tr.und p)
set_option maxRecDepth 100000 in
set_option maxHeartbeats 4000000 in
theorem under_c {w : World} {v : Value} {l : List Ev} (h : Evs w v l) (hl : l.length ≤ 1000000) (n : Nat) (hn : n ≤ l.length) :
    Calls Try.prog 51 #[v, .int .i64 n] w (UnderPost w (l.take n)) := by
  have HQ := Lib.hid h
  obtain ⟨aa, cap, rfl⟩ := h.len
  obtain ⟨N, hN⟩ : ∃ N : Nat, N = l.length := ⟨_, rfl⟩
  rw [← hN] at hl hn HQ ⊢
  have HN := Lib.hid hN
  clear h hN
  have HRS := Lib.hid (RO.start evC 8 35 w)
  go_enter Try.func51, Try.ntmps51
  go_wp2
  go_loopw [5, 6] (fun s i wr => ∃ (j : Nat) (out : List Ev), j ≤ n ∧ i = .int .i64 j ∧ out = Tr.undK (l.take n) j ∧ out.length ≤ j ∧ ERO w wr s out) (fun _ i _ => match i with | .int _ x => (n - x).toNat | _ => 0)
  case atStart => exact ⟨0, [], Nat.zero_le _, rfl, rfl, Nat.zero_le _, HRS.out⟩
  case round =>
    obtain ⟨j, out, hj, rfl, hout, hol, hrs⟩ := hrel
    have HOUT := Lib.hid hout
    have HS := Lib.hid hrs
    obtain ⟨ps, cs, rfl⟩ := hrs.val
    clear hout hrs
    by_cases hlt : j < n
    · have hjl : j < l.length := by have := HN.out; omega
      have hjN : j < N := by omega
      obtain ⟨b0, off, cap', hv, hcp, hb0, hrows⟩ := (HQ.out.same HS.out.2.2).pos (by have := HN.out; omega)
      rw [← HN.out] at hv
      injection hv with e1 e2 e3
      subst e1 e3
      have HRW := Lib.hid hrows
      have HX := Lib.hid (get_of hjl)
      have hx8 := hrows.ev HX.out
      generalize l[j] = x at HX hx8
      have HXT : Hid ((l.take n)[j]? = some x) := Lib.hid (by rw [List.getElem?_take_of_lt hlt]; exact HX.out)
      have HUS := Lib.hid (Tr.undK_succ HXT.out)
      clear hrows e2
      by_cases k1 : x.kind = 1
      · have k1a : (x.kind != 1) = false := by simpa using k1
        have k1b : (x.kind == 1) = true := by simpa using k1
        have K1 := Lib.hid k1
        clear k1
        have HE0 := Lib.hid (Tr.endedB_start (l.take n) x j)
        have a0 := hx8.c0
        clear hx8
        obtain ⟨wo, hwo⟩ : ∃ wo : World, wo = wr := ⟨_, rfl⟩
        subst hwo
        go_wp2
        go_loopw [7, 8] (fun e i wy => ∃ k : Nat, j + 1 ≤ k ∧ k ≤ n ∧ i = .int .i64 k ∧ e = .bool (Tr.endedB (l.take n) x j k) ∧ Kept (fun _ => False) wo wy) (fun _ i _ => match i with | .int _ x => (n - x).toNat | _ => 0)
        case atStart => exact ⟨j + 1, Nat.le_refl _, by omega, by go_num, by rw [HE0.out], Kept.refl _ _⟩
        case round =>
          obtain ⟨k, hjk, hk, rfl, rfl, K⟩ := hrel
          have HK := Lib.hid K
          clear K
          by_cases hlt2 : k < n
          · have hkl : k < l.length := by have := HN.out; omega
            have hkN : k < N := by omega
            have hy := (HRW.out.kept hb0 HK.out (fun h => h)).ev (get_of hkl)
            have hx5 := ((HRW.out.kept hb0 HK.out (fun h => h)).ev HX.out).c5
            have HYT : Hid ((l.take n)[k]? = some l[k]) := Lib.hid (by rw [List.getElem?_take_of_lt hlt2]; exact get_of hkl)
            have HES := Lib.hid (Tr.endedB_succ (x := x) hjk HYT.out)
            generalize l[k] = y at hy HES HYT
            have y0 := hy.c0
            have y5 := hy.c5
            clear hy
            have i1 : (0 : Int) ≤ (k : Int) := by omega
            have i2 : (k : Int) < N := by omega
            have i3 : (0 : Int) ≤ (j : Int) := by omega
            have i4 : (j : Int) < N := by omega
            obtain ⟨eb, heb⟩ : ∃ eb, Tr.endedB (l.take n) x j k = eb := ⟨_, rfl⟩
            rw [heb] at HES ⊢
            clear heb
            by_cases q2 : y.kind = 2
            · by_cases qr : y.run = x.run
              · have HB : Hid (Tr.endedB (l.take n) x j (k + 1) = true) := Lib.hid (by rw [HES.out]; simp [Tr.endsB, q2, qr])
                have t2 : (y.kind == 2) = true := by simpa using q2
                have tr : (y.run == x.run) = true := by simpa using qr
                clear q2 qr
                go_wp2
                go_quiet (fail)
                go_wp2
                go_roundw
                case rel => exact ⟨k + 1, by omega, by omega, by go_num, by rw [HB.out], HK.out.drewN _⟩
                case measure => simp; omega
              · have HB : Hid (Tr.endedB (l.take n) x j (k + 1) = eb) := Lib.hid (by rw [HES.out]; simp [Tr.endsB, qr])
                have t2 : (y.kind == 2) = true := by simpa using q2
                have tr : (y.run == x.run) = false := by simpa using qr
                clear q2 qr
                go_wp2
                go_quiet (fail)
                go_wp2
                go_roundw
                case rel => exact ⟨k + 1, by omega, by omega, by go_num, by rw [HB.out], HK.out.drewN _⟩
                case measure => simp; omega
            · by_cases q3 : y.kind = 3
              · by_cases qr : y.run = x.run
                · have HB : Hid (Tr.endedB (l.take n) x j (k + 1) = true) := Lib.hid (by rw [HES.out]; simp [Tr.endsB, q3, qr])
                  have t2 : (y.kind == 2) = false := by simpa using q2
                  have t3 : (y.kind == 3) = true := by simpa using q3
                  have tr : (y.run == x.run) = true := by simpa using qr
                  clear q2 q3 qr
                  go_wp2
                  go_quiet (fail)
                  go_wp2
                  go_roundw
                  case rel => exact ⟨k + 1, by omega, by omega, by go_num, by rw [HB.out], HK.out.drewN _⟩
                  case measure => simp; omega
                · have HB : Hid (Tr.endedB (l.take n) x j (k + 1) = eb) := Lib.hid (by rw [HES.out]; simp [Tr.endsB, qr])
                  have t2 : (y.kind == 2) = false := by simpa using q2
                  have t3 : (y.kind == 3) = true := by simpa using q3
                  have tr : (y.run == x.run) = false := by simpa using qr
                  clear q2 q3 qr
                  go_wp2
                  go_quiet (fail)
                  go_wp2
                  go_roundw
                  case rel => exact ⟨k + 1, by omega, by omega, by go_num, by rw [HB.out], HK.out.drewN _⟩
                  case measure => simp; omega
              · have HB : Hid (Tr.endedB (l.take n) x j (k + 1) = eb) := Lib.hid (by rw [HES.out]; simp [Tr.endsB, q2, q3])
                have t2 : (y.kind == 2) = false := by simpa using q2
                have t3 : (y.kind == 3) = false := by simpa using q3
                clear q2 q3
                go_wp2
                go_quiet (fail)
                go_wp2
                go_roundw
                case rel => exact ⟨k + 1, by omega, by omega, by go_num, by rw [HB.out], HK.out.drewN _⟩
                case measure => simp; omega
          · obtain rfl : k = n := by omega
            have HEQ : Hid (Tr.pickB (l.take k) x j = !Tr.endedB (l.take k) x j k) := Lib.hid (by
              unfold Tr.pickB Tr.endedB
              rw [decide_eq_true K1.out, List.take_take, Nat.min_self]
              rfl)
            obtain ⟨eb, heb⟩ : ∃ eb, Tr.endedB (l.take k) x j k = eb := ⟨_, rfl⟩
            rw [heb] at HEQ ⊢
            clear heb
            have HS1 := Lib.hid (HS.out.move HK.out)
            cases eb with
            | true =>
              have HNX : Hid (out = Tr.undK (l.take k) (j + 1)) := Lib.hid (by rw [HUS.out, ← HOUT.out, if_neg (by rw [HEQ.out]; decide)])
              go_wp2
              go_roundw
              case rel => exact ⟨j + 1, out, by omega, by go_num, HNX.out, by omega, HS1.out⟩
              case measure => simp; omega
            | false =>
              have HNX : Hid (out ++ [x] = Tr.undK (l.take k) (j + 1)) := Lib.hid (by rw [HUS.out, ← HOUT.out, if_pos (by rw [HEQ.out]; rfl)])
              have hy := (HRW.out.kept hb0 HK.out (fun h => h)).ev HX.out
              obtain ⟨a0, a1, a2, a3, a4, a5, a6, a7⟩ := hy
              obtain ⟨m, hm⟩ : ∃ m, out.length = m := ⟨_, rfl⟩
              have HM := Lib.hid hm
              have HOW : Hid (wo.ownsRow w.heap.size 35 8 (.slice ps m cs) m (cellsL evC out)) := Lib.hid (by have := HS.out.1; rw [hm] at this; exact this)
              have HOW1 : Hid (∀ W, Kept (fun _ => False) wo W → W.ownsRow w.heap.size 35 8 (.slice ps m cs) m (cellsL evC out)) := Lib.hid fun W K => ownsRow_kept HOW.out K (fun _ _ _ h => h)
              have HBN : Hid (m + 1 ≤ maxLen ∧ (m + 1) * 64 ≤ 140737488355328) := Lib.hid (by unfold maxLen; omega)
              have HSZ : Hid (∀ W, Kept (fun _ => False) wo W → w.heap.size ≤ W.heap.size) := Lib.hid fun W K => Nat.le_trans HS.out.2.1 K.size
              have KEEP : Hid (∀ g c w5, w5.ownsRow w.heap.size 35 8 (.slice (some ⟨g, 0, none⟩) (m + 1) c) (m + 1) (cellsL evC out ++ evC x) → ∀ W, Kept (fun _ => False) wo W → Kept (fun b => (Value.slice ps m cs).ownBlock = some b) W w5 →
                  ERO w w5 (.slice (some ⟨g, 0, none⟩) (out ++ [x]).length c) (out ++ [x])) := Lib.hid fun g c w5 ho W KW K => by
                rw [List.length_append, List.length_singleton, hm]
                have h1 := HS.out.move KW
                rw [hm] at h1
                exact h1.snoc hm ho K
              rw [hm] at hol ⊢
              have HLN : Hid ((out ++ [x]).length = m + 1) := Lib.hid (by rw [List.length_append, List.length_singleton, hm])
              clear hm
              go_wp2_with (at_builtin; refine wpList_app1 el22 rfl (.tmp 56) (.tmp 61) rfl w.heap.size (.slice ps m cs) m (cellsL evC out) rfl (HOW1.out _ HK.out) (news := evC x) rfl rfl (evC_one x) HBN.out.1 HBN.out.2 (HSZ.out _ HK.out) ?_; intro g c w5 hown5 K5; have HKP := Lib.hid (KEEP.out g c w5 hown5 _ HK.out K5); clear hown5 K5)
              rw [HLN.out] at HKP
              go_roundw
              case rel => exact ⟨j + 1, out ++ [x], by omega, by go_num, HNX.out, by rw [HLN.out]; omega, HKP.out⟩
              case measure => simp; omega
      · have k1a : (x.kind != 1) = true := by simpa using k1
        have k1b : (x.kind == 1) = false := by simpa using k1
        have HNX : Hid (out = Tr.undK (l.take n) (j + 1)) := Lib.hid (by rw [HUS.out, ← HOUT.out, if_neg (by unfold Tr.pickB; rw [decide_eq_false k1]; simp)])
        clear k1
        have a0 := hx8.c0
        clear hx8
        go_wp2
        go_roundw
        case rel => exact ⟨j + 1, out, by omega, by go_num, HNX.out, by omega, HS.out⟩
        case measure => simp; omega
    · obtain rfl : j = n := by omega
      have HF : Hid (out = Tr.und (l.take j)) := Lib.hid (by
        rw [HOUT.out]
        have := Tr.undK_all (l.take j)
        rwa [List.length_take, Nat.min_eq_left (by have := HN.out; omega)] at this)
      go_wp2
      go_ret
      exact ⟨_, rfl, by rw [← HF.out]; exact HS.out⟩
end Go.Proofs.Ytfhlllmicobafaa
