/- TrPrefix: texts for the statements of this seat: contracts of functions, walks, plain laws. Conditions: none. -/
import Derived.Test.YtfhlllmicobafaaTrRChk
import Derived.Test.YtfhlllmicobafaaTrIdx
import Derived.Test.YtfhlllmicobafaaTrClone
set_option linter.all false
/- Prefix, of both. -/
namespace Go.Proofs.Ytfhlllmicobafaa
open Go.RowKit
open Tr (Ev ofB)

def prefC (l : List Ev) (now : Int) : Int := if Tr.bad 64 l ≠ 0 then Tr.bad 64 l else if now < 0 ∨ 253402300799 < now then 14 else 0
def prefL (l : List Ev) (now : Int) : List Ev := if prefC l now = 0 then l.filter fun x => decide (x.t ≤ now) else []
def PrefPost (l : List Ev) (now : Int) (w : World) (r : Ending) (w' : World) : Prop := ∃ v, r = .returned (.tuple #[v, .int .i64 (prefC l now)]) ∧ ERO w w' v (prefL l now)
theorem pref_fail {l : List Ev} {now c : Int} {w w1 : World} (hc : prefC l now = c) (h0 : c ≠ 0) (K : Kept (fun _ => False) w w1) : PrefPost l now w (.returned (.tuple #[.slice none 0 0, .int .i64 c])) w1 :=
  ⟨_, by rw [hc], by unfold prefL; rw [if_neg (by rw [hc]; exact h0)]; exact (RO.start _ _ _ w).move K⟩
theorem prefC_bad {l : List Ev} {now c : Int} (h : Tr.bad 64 l = c) (h0 : c ≠ 0) : prefC l now = c := by unfold prefC; rw [if_pos (by rw [h]; exact h0), h]
theorem prefC_now {l : List Ev} {now : Int} (h : Tr.bad 64 l = 0) (h0 : now < 0 ∨ 253402300799 < now) : prefC l now = 14 := by unfold prefC; rw [if_neg (by rw [h]; simp), if_pos h0]
theorem prefC_ok {l : List Ev} {now : Int} (h : Tr.bad 64 l = 0) (h0 : ¬ (now < 0 ∨ 253402300799 < now)) : prefC l now = 0 := by unfold prefC; rw [if_neg (by rw [h]; simp), if_neg h0]
theorem prefL_ok {l : List Ev} {now : Int} (h : prefC l now = 0) : prefL l now = l.filter fun x => decide (x.t ≤ now) := by unfold prefL; rw [if_pos h]
theorem Nz.take {aa : Option Addr} {N cap k : Nat} (h : Nz (.slice aa N cap)) (hk : k ≤ N) : Nz (.slice aa k cap) := fun n c e => by
  injection e with e1 e2 e3
  subst e1
  obtain ⟨h1, h2⟩ := h _ _ rfl
  omega
set_option maxRecDepth 100000 in
set_option maxHeartbeats 4000000 in
theorem prefix_c {w : World} {v : Value} {l : List Ev} (h : Evs w v l) (hz : Nz v) (hw : EvW l) (hl : l.length ≤ 1000000) (now : Int) : Calls Try.prog 32 #[v, .int .i64 now] w (PrefPost l now w) := by
  have r3 := RowAt.new w 2 #[.int .i64 now]
  have k0 : Kept (fun _ => False) w (w.alloc (.cells #[.int .i64 now] 2)) := (Kept.refl _ _).alloc _
  have HC := Lib.hid (walk_c (h.same k0) hw hl 64 (by omega) (by omega))
  obtain ⟨c, hc⟩ : ∃ c, Tr.bad 64 l = c := ⟨_, rfl⟩
  have HB := Lib.hid hc
  have HB2 : Hid ((Tr.chkFrom 64 [] l).2 = c) := Lib.hid hc
  obtain ⟨ci, hci⟩ : ∃ ci, (Tr.chkFrom 64 [] l).1 = ci := ⟨_, rfl⟩
  rw [HB2.out, hci] at HC
  have HQ := Lib.hid (h.same k0)
  have HR := Lib.hid r3
  have HK0 := Lib.hid k0
  have HW := Lib.hid hz
  obtain ⟨aa, cap, rfl⟩ := h.len
  obtain ⟨N, hN⟩ : ∃ N : Nat, N = l.length := ⟨_, rfl⟩
  rw [← hN] at hl HC HQ HW ⊢
  have HN := Lib.hid hN
  clear h hw r3 k0 hN hc hci hz
  by_cases hc0 : ¬ c = 0
  · have hb1 : (c != 0) = true := by simpa using hc0
    have hb2 : (c == 0) = false := by simpa using hc0
    have HF : Hid (∀ w1, Kept (fun _ => False) w w1 → PrefPost l now w (.returned (.tuple #[.slice none 0 0, .int .i64 c])) w1) := Lib.hid fun w1 K => pref_fail (prefC_bad HB.out hc0) hc0 K
    go_enter Try.func32, Try.ntmps32
    go_wp2_with (go_at_call 47; fail)
    refine HC.out.mono ?_
    rintro e w1 ⟨rfl, K1⟩
    have HFF := Lib.hid (HF.out _ (HK0.out.trans K1 (fun _ _ h => h)))
    clear K1 hc0
    go_wp2
    go_ret2
    exact HFF.out
  · obtain rfl := Decidable.not_not.1 hc0
    clear hc0
    by_cases hn0 : now < 0
    · have HF : Hid (∀ w1, Kept (fun _ => False) w w1 → PrefPost l now w (.returned (.tuple #[.slice none 0 0, .int .i64 14])) w1) := Lib.hid fun w1 K => pref_fail (prefC_now HB.out (.inl hn0)) (by simp) K
      go_enter Try.func32, Try.ntmps32
      go_wp2_with (go_at_call 47; fail)
      refine HC.out.mono ?_
      rintro e w1 ⟨rfl, K1⟩
      have HFF := Lib.hid (HF.out _ (HK0.out.trans K1 (fun _ _ h => h)))
      have d0 := (HR.out.same K1).get (j := 0) rfl
      have dl := (HR.out.same K1).lt
      clear K1
      go_wp2
      go_ret2
      exact HFF.out
    · by_cases hn1 : 253402300799 < now
      · have HF : Hid (∀ w1, Kept (fun _ => False) w w1 → PrefPost l now w (.returned (.tuple #[.slice none 0 0, .int .i64 14])) w1) := Lib.hid fun w1 K => pref_fail (prefC_now HB.out (.inr hn1)) (by simp) K
        go_enter Try.func32, Try.ntmps32
        go_wp2_with (go_at_call 47; fail)
        refine HC.out.mono ?_
        rintro e w1 ⟨rfl, K1⟩
        have HFF := Lib.hid (HF.out _ (HK0.out.trans K1 (fun _ _ h => h)))
        have d0 := (HR.out.same K1).get (j := 0) rfl
        have dl := (HR.out.same K1).lt
        clear K1
        go_wp2
        go_ret2
        exact HFF.out
      · have HPC : Hid (prefC l now = 0) := Lib.hid (prefC_ok HB.out (by omega))
        have HTK : Hid (l.take (l.findIdx fun x => decide (now < x.t)) = prefL l now) := Lib.hid (by rw [prefL_ok HPC.out]; exact Tr.prefix_eq (Tr.Ok.times l (Tr.bad_ok HB.out)) now)
        go_enter Try.func32, Try.ntmps32
        go_wp2_with (go_at_call 47; fail)
        refine HC.out.mono ?_
        rintro e w1 ⟨rfl, K1⟩
        have HK1 := Lib.hid (HK0.out.trans K1 (fun _ _ h => h))
        have HQ1 := Lib.hid (HQ.out.same K1)
        have HR1 := Lib.hid (HR.out.same K1)
        have d0 := HR1.out.get (j := 0) rfl
        have dl := HR1.out.lt
        have HIX := Lib.hid (index43_c (fun x => decide (now < x.t)) 59 #[.pointer (some ⟨w.heap.size, 0, none⟩)] (enters_of Try.func59 (by kernel_rfl) rfl) HQ1.out (by rw [← HN.out]; exact hl) (fun W e b K hb => after_is b e now _ W (HR1.out.same K) hb))
        clear K1
        go_wp2_with (go_at_call 43; fail)
        refine HIX.out.mono ?_
        rintro e w2 ⟨rfl, K2⟩
        have HK2 := Lib.hid (HK1.out.trans K2 (fun _ _ h => h))
        have HQ2 := Lib.hid (HQ1.out.same K2)
        clear K2 d0 dl HIX
        have HFI : Hid (l.findIdx (fun x => decide (now < x.t)) ≤ N) := Lib.hid (by rw [HN.out]; exact List.findIdx_le_length)
        obtain ⟨k, hk⟩ : ∃ k, l.findIdx (fun x => decide (now < x.t)) = k := ⟨_, rfl⟩
        have hid : idxF (fun x => decide (now < x.t)) l = if k < N then (k : Int) else -1 := by unfold idxF; rw [hk, HN.out]
        rw [hid]
        rw [hk] at HTK HFI
        have hkN := HFI.out
        have HCL := Lib.hid (clone20_c (HQ2.out.take (k := k) (by rw [← HN.out]; exact hkN)) (HW.out.take hkN) (by rw [List.length_take]; omega))
        have hcap : N ≤ cap := by
          rcases Nat.eq_zero_or_pos N with q | q
          · omega
          · obtain ⟨b0, off, cap2, hv, hcp, -, -⟩ := HQ2.out.pos (by have := HN.out; omega)
            injection hv with _ _ e3
            have := HN.out
            omega
        clear hid hk
        by_cases hkl : k < N
        · rw [if_pos hkl]
          have i1 : (0 : Int) ≤ (k : Int) := by omega
          have i2 : (k : Int) ≤ (cap : Int) := by omega
          go_wp2_with (go_at_call 20; fail)
          refine HCL.out.mono ?_
          rintro e w3 ⟨u, rfl, hu⟩
          have HFF : Hid (PrefPost l now w (.returned (.tuple #[u, .int .i64 0])) w3) := Lib.hid ⟨_, by rw [HPC.out], by rw [← HTK.out]; exact hu.base HK2.out⟩
          clear hu
          go_wp2
          go_ret2
          exact HFF.out
        · obtain rfl : k = N := by omega
          rw [if_neg (by omega)]
          have i1 : (0 : Int) ≤ (k : Int) := by omega
          have i2 : (k : Int) ≤ (cap : Int) := by omega
          go_wp2_with (go_at_call 20; fail)
          refine HCL.out.mono ?_
          rintro e w3 ⟨u, rfl, hu⟩
          have HFF : Hid (PrefPost l now w (.returned (.tuple #[u, .int .i64 0])) w3) := Lib.hid ⟨_, by rw [HPC.out], by rw [← HTK.out]; exact hu.base HK2.out⟩
          clear hu
          go_wp2
          go_ret2
          exact HFF.out

set_option maxRecDepth 100000 in
set_option maxHeartbeats 4000000 in
theorem rprefix_c {w : World} {v : Value} {l : List Ev} (h : Evs w v l) (hw : EvW l) (hl : l.length ≤ 1000000) (now : Int) : Calls Try.prog 33 #[v, .int .i64 now] w (PrefPost l now w) := by
  have HC := Lib.hid (rcheck_c h hw hl 64)
  have hcf : Tr.check 64 l = Tr.chkFrom 64 [] l := by unfold Tr.check; rw [if_neg (by omega)]
  rw [hcf] at HC
  obtain ⟨c, hc⟩ : ∃ c, Tr.bad 64 l = c := ⟨_, rfl⟩
  have HB := Lib.hid hc
  have HB2 : Hid ((Tr.chkFrom 64 [] l).2 = c) := Lib.hid hc
  obtain ⟨ci, hci⟩ : ∃ ci, (Tr.chkFrom 64 [] l).1 = ci := ⟨_, rfl⟩
  rw [HB2.out, hci] at HC
  have HQ := Lib.hid h
  obtain ⟨aa, cap, rfl⟩ := h.len
  obtain ⟨N, hN⟩ : ∃ N : Nat, N = l.length := ⟨_, rfl⟩
  rw [← hN] at hl HC HQ ⊢
  have HN := Lib.hid hN
  clear h hw hN hc hci hcf
  by_cases hc0 : ¬ c = 0
  · have hb1 : (c != 0) = true := by simpa using hc0
    have hb2 : (c == 0) = false := by simpa using hc0
    have HF : Hid (∀ w1, Kept (fun _ => False) w w1 → PrefPost l now w (.returned (.tuple #[.slice none 0 0, .int .i64 c])) w1) := Lib.hid fun w1 K => pref_fail (prefC_bad HB.out hc0) hc0 K
    go_enter Try.func33, Try.ntmps33
    go_wp2_with (go_at_call 22; fail)
    refine HC.out.mono ?_
    rintro e w1 ⟨rfl, K1⟩
    have HFF := Lib.hid (HF.out _ K1)
    clear K1 hc0
    go_wp2
    go_ret2
    exact HFF.out
  · obtain rfl := Decidable.not_not.1 hc0
    clear hc0
    by_cases hn0 : now < 0
    · have HF : Hid (∀ w1, Kept (fun _ => False) w w1 → PrefPost l now w (.returned (.tuple #[.slice none 0 0, .int .i64 14])) w1) := Lib.hid fun w1 K => pref_fail (prefC_now HB.out (.inl hn0)) (by simp) K
      go_enter Try.func33, Try.ntmps33
      go_wp2_with (go_at_call 22; fail)
      refine HC.out.mono ?_
      rintro e w1 ⟨rfl, K1⟩
      have HFF := Lib.hid (HF.out _ K1)
      clear K1
      go_wp2
      go_ret2
      exact HFF.out
    · by_cases hn1 : 253402300799 < now
      · have HF : Hid (∀ w1, Kept (fun _ => False) w w1 → PrefPost l now w (.returned (.tuple #[.slice none 0 0, .int .i64 14])) w1) := Lib.hid fun w1 K => pref_fail (prefC_now HB.out (.inr hn1)) (by simp) K
        go_enter Try.func33, Try.ntmps33
        go_wp2_with (go_at_call 22; fail)
        refine HC.out.mono ?_
        rintro e w1 ⟨rfl, K1⟩
        have HFF := Lib.hid (HF.out _ K1)
        clear K1
        go_wp2
        go_ret2
        exact HFF.out
      · have HPC : Hid (prefC l now = 0) := Lib.hid (prefC_ok HB.out (by omega))
        go_enter Try.func33, Try.ntmps33
        go_wp2_with (go_at_call 22; fail)
        refine HC.out.mono ?_
        rintro e w1 ⟨rfl, K1⟩
        have HK1 := Lib.hid K1
        have HR0 := Lib.hid (RO.start evC 8 35 w1)
        clear K1
        go_wp2
        go_loopw [8, 9] (fun s i wr => ∃ (j : Nat) (out : List Ev), j ≤ N ∧ i = .int .i64 j ∧ out = (l.take j).filter (fun x => decide (x.t ≤ now)) ∧ out.length ≤ j ∧ ERO w1 wr s out) (fun _ i _ => match i with | .int _ x => (N - x).toNat | _ => 0)
        case atStart => exact ⟨0, [], Nat.zero_le _, rfl, rfl, Nat.zero_le _, HR0.out⟩
        case round =>
          obtain ⟨j, out, hj, rfl, hout, hol, hrs⟩ := hrel
          have HOUT := Lib.hid hout
          have HS := Lib.hid hrs
          obtain ⟨ps, cs, rfl⟩ := hrs.val
          clear hout hrs
          by_cases hlt : j < N
          · obtain ⟨b0, off, cap', hv, hcp, hb0, hrows⟩ := ((HQ.out.same HK1.out).same HS.out.2.2).pos (by have := HN.out; omega)
            rw [← HN.out] at hv
            injection hv with e1 e2 e3
            subst e1 e3
            have hjl : j < l.length := by have := HN.out; omega
            have HX := Lib.hid (get_of hjl)
            have hx8 := hrows.ev HX.out
            generalize l[j] = x at HX hx8
            have HTS : Hid ((l.take (j + 1)).filter (fun x => decide (x.t ≤ now)) = (l.take j).filter (fun x => decide (x.t ≤ now)) ++ if x.t ≤ now then [x] else []) := Lib.hid (by
              rw [Tr.take_snoc' HX.out, List.filter_append]
              congr 1
              by_cases q : x.t ≤ now <;> simp [q])
            have i1 : (0 : Int) ≤ (j : Int) := by omega
            have i2 : (j : Int) < N := by omega
            clear hrows e2
            by_cases k1 : x.t ≤ now
            · have HNX : Hid (out ++ [x] = (l.take (j + 1)).filter (fun x => decide (x.t ≤ now))) := Lib.hid (by rw [HTS.out, if_pos k1, HOUT.out])
              obtain ⟨m, hm⟩ : ∃ m, out.length = m := ⟨_, rfl⟩
              have HOW : Hid (wr.ownsRow w1.heap.size 35 8 (.slice ps m cs) m (cellsL evC out)) := Lib.hid (by have := HS.out.1; rw [hm] at this; exact this)
              have HSZ := Lib.hid HS.out.2.1
              have KEEP : Hid (∀ g c w5, w5.ownsRow w1.heap.size 35 8 (.slice (some ⟨g, 0, none⟩) (m + 1) c) (m + 1) (cellsL evC out ++ evC x) → Kept (fun b => (Value.slice ps m cs).ownBlock = some b) wr w5 →
                  ERO w1 w5 (.slice (some ⟨g, 0, none⟩) (m + 1) c) (out ++ [x])) := Lib.hid fun g c w5 ho K => by
                have h1 := HS.out
                rw [hm] at h1
                exact h1.snoc hm ho K
              rw [hm] at hol ⊢
              have HLN : Hid ((out ++ [x]).length = m + 1) := Lib.hid (by rw [List.length_append, List.length_singleton, hm])
              clear hm
              obtain ⟨a0, a1, a2, a3, a4, a5, a6, a7⟩ := hx8
              go_wp2_with (at_builtin; refine wpList_app1 el22 rfl (.tmp 41) (.tmp 46) rfl w1.heap.size (.slice ps m cs) m (cellsL evC out) rfl HOW.out (news := evC x) rfl rfl (evC_one x) (by unfold maxLen; omega) (by omega) HSZ.out ?_; intro g c w5 hown5 K5; have HKP := Lib.hid (KEEP.out g c w5 hown5 K5); clear hown5 K5)
              go_roundw
              case rel => exact ⟨j + 1, out ++ [x], by omega, by go_num, HNX.out, by rw [HLN.out]; omega, HKP.out⟩
              case measure => simp; omega
            · have HNX : Hid (out = (l.take (j + 1)).filter (fun x => decide (x.t ≤ now))) := Lib.hid (by rw [HTS.out, if_neg k1, HOUT.out, List.append_nil])
              have a1 := hx8.c1
              clear hx8
              go_wp2
              go_roundw
              case rel => exact ⟨j + 1, out, by omega, by go_num, HNX.out, by omega, HS.out⟩
              case measure => simp; omega
          · obtain rfl : j = N := by omega
            have HFF : Hid (PrefPost l now w (.returned (.tuple #[.slice ps out.length cs, .int .i64 0])) wr) := Lib.hid ⟨_, by rw [HPC.out], by
              have h1 := HOUT.out
              rw [List.take_of_length_le (by have := HN.out; omega)] at h1
              rw [prefL_ok HPC.out, ← h1]
              exact HS.out.base HK1.out⟩
            go_wp2
            go_ret2
            exact HFF.out
end Go.Proofs.Ytfhlllmicobafaa
