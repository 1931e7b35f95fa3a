/- TrRefs: texts for the statements of this seat: contracts of functions, walks, plain laws. Conditions: none. -/
import Derived.Test.YtfhlllmicobafaaTrRunning
import Derived.Test.YtfhlllmicobafaaTrLaun
import Derived.Test.YtfhlllmicobafaaTrRChk
set_option linter.all false
/- of, Running, Launches of the reference. -/
namespace Go.Proofs.Ytfhlllmicobafaa
open Go.RowKit
open Tr (Ev ofB)
theorem und_len (p : List Ev) : (Tr.und p).length ≤ p.length := by
  have : ∀ (p u : List Ev), (p.foldl Tr.ustep u).length ≤ u.length + p.length := by
    intro p
    induction p with
    | nil => intro u; simp
    | cons a p ih =>
      intro u
      have h1 := ih (Tr.ustep u a)
      have h2 : (Tr.ustep u a).length ≤ u.length + 1 := by
        unfold Tr.ustep
        split
        · simp
        · split
          · have := List.length_filter_le (fun e : Ev => e.run != a.run) u; omega
          · omega
      simp only [List.foldl_cons, List.length_cons]
      omega
  have := this p []
  simpa [Tr.und] using this
theorem rof_c (e : Ev) (job : Int) (w : World) : Calls Try.prog 55 #[evV e, .int .i64 job] w fun r w' => r = .returned (.bool (ofB job e)) ∧ Kept (fun _ => False) w w' := by
  have HK : Hid (∀ o, Kept (fun _ => False) w (w.alloc o)) := Lib.hid fun o => (Kept.refl _ _).alloc _
  by_cases h1 : job = -1
  · subst h1
    have HE : Hid (ofB (-1) e = true) := Lib.hid (by simp [ofB])
    go_enter Try.func55, Try.ntmps55
    go_wp2
    go_ret
    exact ⟨by rw [HE.out]; rfl, HK.out _⟩
  · have h1a : (job == -1) = false := by simpa using h1
    by_cases h2 : e.job = job
    · have h2a : (e.job == job) = true := by simpa using h2
      have HE : Hid (ofB job e = true) := Lib.hid (by simp [ofB, h2])
      clear h2
      go_enter Try.func55, Try.ntmps55
      go_wp2
      go_ret
      exact ⟨by rw [HE.out]; rfl, HK.out _⟩
    · have h2a : (e.job == job) = false := by simpa using h2
      have HE : Hid (ofB job e = false) := Lib.hid (by simp [ofB, h1, h2])
      clear h2
      go_enter Try.func55, Try.ntmps55
      go_wp2
      go_ret
      exact ⟨by rw [HE.out]; rfl, HK.out _⟩
theorem rof_b (b : Bool) (e : Ev) (job : Int) (w : World) (h : ofB job e = b) : Calls Try.prog 55 #[evV e, .int .i64 job] w fun r w' => r = .returned (.bool b) ∧ Kept (fun _ => False) w w' := h ▸ rof_c e job w

set_option maxRecDepth 100000 in
set_option maxHeartbeats 4000000 in
theorem rrunning_c {w : World} {v : Value} {l : List Ev} (h : Evs w v l) (hw : EvW l) (hl : l.length ≤ 1000000) (n : Int) :
    Calls Try.prog 16 #[v, .int .i64 n] w (RunsPost l n w) := by
  have HC := Lib.hid (wrong_c h hw hl n 0 l.length)
  have HQ := Lib.hid h
  have HUN := Lib.hid (fun W (K : Kept (fun _ => False) w W) k (hk : k ≤ l.length) => under_c (h.same K) hl k hk)
  obtain ⟨aa, cap, rfl⟩ := h.len
  obtain ⟨N, hN⟩ : ∃ N : Nat, N = l.length := ⟨_, rfl⟩
  obtain ⟨c, hc⟩ : ∃ c, wrongE l n 0 l.length = c := ⟨_, rfl⟩
  have HWE := Lib.hid hc
  rw [hc] at HC
  rw [← hN] at hl HC HQ HUN ⊢
  have HN := Lib.hid hN
  clear h hN hw hc
  by_cases hc0 : ¬ c = 0
  · have hb1 : (c != 0) = true := by simpa using hc0
    have hb2 : (c == 0) = false := by simpa using hc0
    go_enter Try.func16, Try.ntmps16
    go_wp2_with (go_at_call 50; fail)
    refine HC.out.mono ?_
    rintro e w1 ⟨rfl, K1⟩
    have HF : Hid (RunsPost l n w (.returned (.tuple #[.slice none 0 0, .int .i64 c])) w1) := Lib.hid ⟨_, by rw [HWE.out], by rw [if_neg (by rw [HWE.out]; exact hc0)]; exact (RO.start _ _ _ w).move K1⟩
    clear K1 hc0
    go_wp2
    go_ret2
    exact HF.out
  · obtain rfl := Decidable.not_not.1 hc0
    clear hc0
    obtain ⟨hok, hn0, hnN⟩ := wrong_ok HWE.out
    obtain ⟨k, rfl⟩ : ∃ k : Nat, n = (k : Int) := ⟨n.toNat, by omega⟩
    have hkN : k ≤ N := by have := HN.out; omega
    clear hok hn0 hnN
    go_enter Try.func16, Try.ntmps16
    go_wp2_with (go_at_call 50; fail)
    refine HC.out.mono ?_
    rintro e w1 ⟨rfl, K1⟩
    have HK1 := Lib.hid K1
    clear K1
    go_wp2_with (go_at_call 51; fail)
    refine (HUN.out _ HK1.out k hkN).mono ?_
    rintro e w2 ⟨u, rfl, hu⟩
    have hrw := hu.rows evC_len
    have HR0 := Lib.hid (RO.start (fun x : Int => [Value.int .i64 x]) 1 3 w2)
    have HK2 := Lib.hid (HK1.out.trans hu.2.2 (fun _ _ h => h))
    have HR : Hid (runs l k = (Tr.und (l.take k)).map (·.run)) := Lib.hid rfl
    have hul : (Tr.und (l.take k)).length ≤ k := by
      have := und_len (l.take k)
      rw [List.length_take] at this
      omega
    generalize Tr.und (l.take k) = us at hu hrw HR hul
    have HU := Lib.hid hrw
    obtain ⟨pu, cu, rfl⟩ := hu.val
    obtain ⟨m, hm⟩ : ∃ m, us.length = m := ⟨_, rfl⟩
    have HM := Lib.hid hm
    rw [hm] at hul ⊢
    clear hu hrw hm
    go_wp2
    go_loopw [7, 9] (fun s i wr => ∃ (j : Nat) (out : List Int), j ≤ m ∧ i = .int .i64 j ∧ out = (us.take j).map (·.run) ∧ out.length = j ∧ IRO3 w2 wr s out) (fun _ i _ => match i with | .int _ x => (m - x).toNat | _ => 0)
    case atStart => exact ⟨0, [], Nat.zero_le _, rfl, rfl, rfl, HR0.out⟩
    case round =>
      obtain ⟨j, out, hj, rfl, hout, hol, hrs⟩ := hrel
      have HOUT := Lib.hid hout
      have HS := Lib.hid hrs
      obtain ⟨ps, cs, rfl⟩ := hrs.val
      clear hout hrs
      by_cases hlt : j < m
      · obtain ⟨b0, off, cap', hv, hcp, hb0, hrows⟩ := (HU.out.same HS.out.2.2).pos (by have := HM.out; omega)
        rw [HM.out] at hv
        injection hv with e1 e2 e3
        subst e1 e3
        have hjl : j < us.length := by have := HM.out; omega
        have HX := Lib.hid (get_of hjl)
        have hx5 := (hrows.ev HX.out).c5
        generalize us[j] = x at HX hx5
        have HNX : Hid (out ++ [x.run] = (us.take (j + 1)).map (·.run)) := Lib.hid (by rw [HOUT.out, Tr.take_snoc' HX.out, List.map_append]; rfl)
        have HOW : Hid (wr.ownsRow w2.heap.size 3 1 (.slice ps j cs) j (cellsL (fun x : Int => [Value.int .i64 x]) out)) := Lib.hid (by have := HS.out.1; rw [hol] at this; exact this)
        have HSZ := Lib.hid HS.out.2.1
        have KEEP : Hid (∀ g c w5, w5.ownsRow w2.heap.size 3 1 (.slice (some ⟨g, 0, none⟩) (j + 1) c) (j + 1) (cellsL (fun x : Int => [Value.int .i64 x]) out ++ [.int .i64 x.run]) → Kept (fun b => (Value.slice ps j cs).ownBlock = some b) wr w5 →
            IRO3 w2 w5 (.slice (some ⟨g, 0, none⟩) (j + 1) c) (out ++ [x.run])) := Lib.hid fun g c w5 ho K => by
          have h1 := HS.out
          rw [hol] at h1
          exact h1.snoc hol ho K
        rw [hol]
        have HLN : Hid ((out ++ [x.run]).length = j + 1) := Lib.hid (by rw [List.length_append, List.length_singleton, hol])
        have i1 : (0 : Int) ≤ (j : Int) := by omega
        have i2 : (j : Int) < m := by omega
        clear hrows e2 hol
        go_wp2_with (at_builtin; refine wpList_app1 el25 rfl (.tmp 27) (.tmp 33) rfl w2.heap.size (.slice ps j cs) j (cellsL (fun x : Int => [Value.int .i64 x]) out) rfl HOW.out (news := [.int .i64 x.run]) rfl rfl (by simp [Value.oneCell']) (by unfold maxLen; omega) (by omega) HSZ.out ?_; intro g c w5 hown5 K5; have HKP := Lib.hid (KEEP.out g c w5 hown5 K5); clear hown5 K5)
        go_roundw
        case rel => exact ⟨j + 1, out ++ [x.run], by omega, by go_num, HNX.out, HLN.out, HKP.out⟩
        case measure => simp; omega
      · obtain rfl : j = m := by omega
        have HF : Hid (out = runs l k) := Lib.hid (by rw [HOUT.out, HR.out, List.take_of_length_le (by have := HM.out; omega)])
        have HFF : Hid (RunsPost l k w (.returned (.tuple #[.slice ps out.length cs, .int .i64 0])) wr) := Lib.hid ⟨_, by rw [HWE.out], by
          rw [if_pos HWE.out, Int.toNat_natCast, ← HF.out]
          exact HS.out.base HK2.out⟩
        go_wp2
        go_ret2
        exact HFF.out

set_option maxRecDepth 100000 in
set_option maxHeartbeats 4000000 in
theorem rlaun_c {w : World} {v : Value} {l : List Ev} (h : Evs w v l) (hw : EvW l) (hl : l.length ≤ 100000) (job : Int) :
    Calls Try.prog 25 #[v, .int .i64 job] w (LaunPost w (wrongE l job (-1) 63) ((picks (fun e => e.kind == 1) job l l.length).map fun p => p.2.t)) := by
  have HC := Lib.hid (wrong_c h hw (by omega) job (-1) 63)
  have HQ := Lib.hid h
  obtain ⟨aa, cap, rfl⟩ := h.len
  obtain ⟨N, hN⟩ : ∃ N : Nat, N = l.length := ⟨_, rfl⟩
  obtain ⟨c, hc⟩ : ∃ c, wrongE l job (-1) 63 = c := ⟨_, rfl⟩
  rw [hc] at HC ⊢
  rw [← hN] at hl HC HQ ⊢
  have HN := Lib.hid hN
  clear h hN hw hc
  by_cases hc0 : ¬ c = 0
  · have hb1 : (c != 0) = true := by simpa using hc0
    have hb2 : (c == 0) = false := by simpa using hc0
    go_enter Try.func25, Try.ntmps25
    go_wp2_with (go_at_call 50; fail)
    refine HC.out.mono ?_
    rintro e w1 ⟨rfl, K1⟩
    have HF : Hid (LaunPost w c ((picks (fun e => e.kind == 1) job l N).map fun p => p.2.t) (.returned (.tuple #[.slice none 0 0, .int .i64 c])) w1) := Lib.hid ⟨_, rfl, by rw [if_neg hc0]; exact (RO.start _ _ _ w).move K1⟩
    clear K1 hc0
    go_wp2
    go_ret2
    exact HF.out
  · obtain rfl := Decidable.not_not.1 hc0
    clear hc0
    go_enter Try.func25, Try.ntmps25
    go_wp2_with (go_at_call 50; fail)
    refine HC.out.mono ?_
    rintro e w1 ⟨rfl, K1⟩
    have HK1 := Lib.hid K1
    have HR0 := Lib.hid (RO.start (fun x : Int => [Value.int .i64 x]) 1 2 w1)
    clear K1
    go_wp2
    go_loopw [7, 8] (fun s i wr => ∃ (j : Nat) (out : List Int), j ≤ N ∧ i = .int .i64 j ∧ out = (picks (fun e => e.kind == 1) job l j).map (fun p => p.2.t) ∧ out.length ≤ j ∧ IRO w1 wr s out) (fun _ i _ => match i with | .int _ x => (N - x).toNat | _ => 0)
    case atStart => exact ⟨0, [], Nat.zero_le _, rfl, rfl, Nat.zero_le _, HR0.out⟩
    case round =>
      obtain ⟨j, out, hj, rfl, hout, hol, hrs⟩ := hrel
      have HOUT := Lib.hid hout
      have HS := Lib.hid hrs
      obtain ⟨ps, cs, rfl⟩ := hrs.val
      clear hout hrs
      by_cases hlt : j < N
      · obtain ⟨b0, off, cap', hv, hcp, hb0, hrows⟩ := ((HQ.out.same HK1.out).same HS.out.2.2).pos (by have := HN.out; omega)
        rw [← HN.out] at hv
        injection hv with e1 e2 e3
        subst e1 e3
        have hjl : j < l.length := by have := HN.out; omega
        have HX := Lib.hid (get_of hjl)
        have HRW := Lib.hid hrows
        have hx8 := hrows.ev HX.out
        generalize l[j] = x at HX hx8
        have i1 : (0 : Int) ≤ (j : Int) := by omega
        have i2 : (j : Int) < N := by omega
        clear hrows e2
        by_cases k1 : x.kind = 1
        · have t1 : (x.kind == 1) = true := by simpa using k1
          have K1 := Lib.hid k1
          clear k1
          obtain ⟨b, hb⟩ : ∃ b, ofB job x = b := ⟨_, rfl⟩
          have HB := Lib.hid hb
          obtain ⟨a0, a1, a2, a3, a4, a5, a6, a7⟩ := hx8
          have HOF := Lib.hid (rof_b b x job wr hb)
          clear hb
          cases b with
          | true =>
            have HNX : Hid (out ++ [x.t] = (picks (fun e => e.kind == 1) job l (j + 1)).map (fun p => p.2.t)) := Lib.hid (by rw [HOUT.out, picks_yes HX.out HB.out t1, List.map_append]; rfl)
            obtain ⟨m, hm⟩ : ∃ m, out.length = m := ⟨_, rfl⟩
            have HM := Lib.hid hm
            have KEEP : Hid (∀ W, Kept (fun _ => False) wr W → W.ownsRow w1.heap.size 2 1 (.slice ps m cs) m (cellsL (fun x : Int => [Value.int .i64 x]) out) ∧ w1.heap.size ≤ W.heap.size ∧ ∀ g c w5, w5.ownsRow w1.heap.size 2 1 (.slice (some ⟨g, 0, none⟩) (m + 1) c) (m + 1) (cellsL (fun x : Int => [Value.int .i64 x]) out ++ [.int .i64 x.t]) → Kept (fun b => (Value.slice ps m cs).ownBlock = some b) W w5 →
                IRO w1 w5 (.slice (some ⟨g, 0, none⟩) (m + 1) c) (out ++ [x.t])) := Lib.hid fun W KW => by
              have h1 := HS.out.move KW
              rw [hm] at h1
              refine ⟨?_, h1.2.1, fun g c w5 ho K => h1.snoc hm ho K⟩
              have := h1.1
              rw [hm] at this
              exact this
            have HRX : Hid (∀ W, Kept (fun _ => False) wr W → EvAt W b0 (off + j * 8) x) := Lib.hid fun W KW => (HRW.out.kept hb0 KW (fun q => q)).ev HX.out
            rw [hm] at hol ⊢
            have HLN : Hid ((out ++ [x.t]).length = m + 1) := Lib.hid (by rw [List.length_append, List.length_singleton, hm])
            clear hm
            go_wp2_with (go_at_call 55; fail)
            refine HOF.out.mono ?_
            rintro e w3 ⟨rfl, K3⟩
            obtain ⟨o1, o2, o3⟩ := KEEP.out w3 K3
            have O1 := Lib.hid o1
            have O2 := Lib.hid o2
            have O3 := Lib.hid o3
            have c1 := (HRX.out w3 K3).c1
            clear o1 o2 o3 K3 a0 a1 a2 a3 a4 a5 a6 a7
            go_wp2_with (at_builtin; refine wpList_app1 el38 rfl (.tmp 35) (.tmp 41) rfl w1.heap.size (.slice ps m cs) m (cellsL (fun x : Int => [Value.int .i64 x]) out) rfl O1.out (news := [.int .i64 x.t]) rfl rfl (by simp [Value.oneCell']) (by unfold maxLen; omega) (by omega) O2.out ?_; intro g c w5 hown5 K5; have HKP := Lib.hid (O3.out g c w5 hown5 K5); clear hown5 K5)
            go_roundw
            case rel => exact ⟨j + 1, out ++ [x.t], by omega, by go_num, HNX.out, by rw [HLN.out]; omega, HKP.out⟩
            case measure => simp; omega
          | false =>
            have HNX : Hid (out = (picks (fun e => e.kind == 1) job l (j + 1)).map (fun p => p.2.t)) := Lib.hid (by rw [HOUT.out, picks_no HX.out (fun q => by rw [HB.out] at q; cases q.1)])
            go_wp2_with (go_at_call 55; fail)
            refine HOF.out.mono ?_
            rintro e w3 ⟨rfl, K3⟩
            have HS3 := Lib.hid (HS.out.move K3)
            clear K3 a0 a1 a2 a3 a4 a5 a6 a7
            go_wp2
            go_roundw
            case rel => exact ⟨j + 1, out, by omega, by go_num, HNX.out, by omega, HS3.out⟩
            case measure => simp; omega
        · have t1 : (x.kind == 1) = false := by simpa using k1
          have HNX : Hid (out = (picks (fun e => e.kind == 1) job l (j + 1)).map (fun p => p.2.t)) := Lib.hid (by rw [HOUT.out, picks_no HX.out (fun q => by rw [t1] at q; cases q.2)])
          clear k1
          have a0 := hx8.c0
          clear hx8
          go_wp2
          go_roundw
          case rel => exact ⟨j + 1, out, by omega, by go_num, HNX.out, by omega, HS.out⟩
          case measure => simp; omega
      · obtain rfl : j = N := by omega
        have HFF : Hid (LaunPost w 0 ((picks (fun e => e.kind == 1) job l j).map fun p => p.2.t) (.returned (.tuple #[.slice ps out.length cs, .int .i64 0])) wr) := Lib.hid ⟨_, rfl, by
          rw [if_pos rfl, ← HOUT.out]
          exact HS.out.base HK1.out⟩
        go_wp2
        go_ret2
        exact HFF.out
end Go.Proofs.Ytfhlllmicobafaa
