/- WiThin2: texts for the statements of this seat: contracts of functions, walks, plain laws. Conditions: none. -/
import Derived.Test.YtelgknecainlfaaWiThin
set_option linter.all false
/- Thin of the reference. -/
namespace Go.Proofs.Ytelgknecainlfaa
open Go.RowKit
open Wi (vld Srt chk limB limE inS longE)

def kbB (T U : Int) (out : List Int) (t : Int) (k : Nat) : Bool := (List.range k).all fun q => !early T U ((out.length : Int) - q) (t - out.getD q 0)
theorem kbB_succ (T U : Int) {out : List Int} (t : Int) {k : Nat} {x : Int} (h : out[k]? = some x) : kbB T U out t (k + 1) = (kbB T U out t k && !early T U ((out.length : Int) - k) (t - x)) := by
  unfold kbB
  rw [List.range_succ, List.all_append]
  simp [List.getD_eq_getElem?_getD, h]
set_option maxRecDepth 100000 in
set_option maxHeartbeats 4000000 in
theorem rthin_c {w : World} {v : Value} {l : List Int} (h : Ints w v l) (hl : l.length ≤ 4611686018427387904) (T U : Int) : Calls Try.prog 18 #[.agg #[.int .i64 T, .int .i64 U], v] w (ThinPost T U l w) := by
  have HROW := Lib.hid (RowAt.new w 23 #[.int .i64 T, .int .i64 U])
  have HK0 := Lib.hid ((Kept.refl (fun _ => False) w).alloc (.cells #[.int .i64 T, .int .i64 U] 23))
  have HC := Lib.hid (fun W K => both35_c (w := W) (h.same K) hl T U)
  have HQ := Lib.hid h
  obtain ⟨aa, cap, rfl⟩ := h.len
  obtain ⟨n, hn⟩ : ∃ n : Nat, n = l.length := ⟨_, rfl⟩
  rw [← hn] at hl HC HQ ⊢
  have HN := Lib.hid hn
  clear h hn
  by_cases hz : bothE T U l = 0
  · obtain ⟨hlim, hg⟩ := bothE_ok hz
    obtain ⟨⟨t1, t2⟩, ⟨u1, u2⟩, hTU⟩ := limE_ok hlim
    have hn5 : n ≤ 100000 := by have := hg.len; have := HN.out; omega
    have HG := Lib.hid hg.vld
    have HZ := Lib.hid hz
    clear hz hlim hg hTU
    go_enter Try.func18, Try.ntmps18
    go_wp2_with (go_at_call 35; fail)
    refine (HC.out _ HK0.out).mono ?_
    rintro e w1 ⟨rfl, K1⟩
    rw [HZ.out]
    have HR1 := Lib.hid (HROW.out.same K1)
    have HK1 := Lib.hid (HK0.out.trans K1 (fun _ _ h => h))
    have HRS := Lib.hid (RS.start w1)
    clear K1 HROW HK0 HC
    obtain ⟨A, hA⟩ : ∃ A, w.heap.size = A := ⟨_, rfl⟩
    rw [hA] at HR1 ⊢
    clear hA
    go_wp2
    go_loopw [7, 8] (fun s i wr => ∃ (j : Nat) (out : List Int), j ≤ n ∧ i = .int .i64 j ∧ out = thinF T U (l.take j) ∧ out.length ≤ j ∧ (∀ x ∈ out, 0 ≤ x ∧ x ≤ 253402300799) ∧ RS w1 wr s out) (fun _ i _ => match i with | .int _ x => (n - x).toNat | _ => 0)
    case atStart => exact ⟨0, [], Nat.zero_le _, rfl, rfl, Nat.zero_le _, by simp, HRS.out⟩
    case round =>
      obtain ⟨j, out, hj, rfl, hout, hol, hvo, hrs⟩ := hrel
      have HOUT := Lib.hid hout
      have HVO := Lib.hid hvo
      have HS := Lib.hid hrs
      obtain ⟨ps, cs, rfl⟩ := hrs.val
      clear hout hrs HRS hvo
      by_cases hlt : j < n
      · have hjl : j < l.length := by have := HN.out; omega
        have hy := HG.out l[j] (List.getElem_mem hjl)
        have HT := Lib.hid (get_of hjl)
        have HST := Lib.hid (thinF_snoc T U hjl)
        generalize l[j] = t at hy HT HST
        obtain ⟨m, hm⟩ : ∃ m, out.length = m := ⟨_, rfl⟩
        have HM := Lib.hid hm
        have HS1 : Hid (RS w1 wr (.slice ps m cs) out ∧ wr.ownsRow w1.heap.size 2 1 (.slice ps m cs) m (iv out)) := Lib.hid (by
          have h := HS.out
          rw [hm] at h
          have h1 := h.1
          rw [hm] at h1
          exact ⟨h, h1⟩)
        rw [hm] at hol ⊢
        have HB1 : Hid (m + 1 ≤ maxLen ∧ (m + 1) * 8 ≤ 140737488355328) := Lib.hid (by unfold maxLen; omega)
        have HKB : Hid (kbB T U out t m = keepB T U out t) := Lib.hid (by rw [← hm]; rfl)
        have HIV : Hid (iv (out ++ [t]) = iv out ++ [.int .i64 t] ∧ (out ++ [t]).length = out.length + 1) := Lib.hid ⟨by simp [iv], by simp⟩
        clear hm
        go_wp2
        go_loopw [9, 10] (fun b i wy => ∃ k : Nat, k ≤ m ∧ i = .int .i64 k ∧ b = .bool (kbB T U out t k) ∧ Kept (fun _ => False) wr wy) (fun _ i _ => match i with | .int _ x => (m - x).toNat | _ => 0)
        case atStart => exact ⟨0, Nat.zero_le _, rfl, rfl, Kept.refl _ _⟩
        case round =>
          obtain ⟨k, hk, rfl, rfl, K⟩ := hrel
          have HK := Lib.hid K
          clear K
          by_cases hlt2 : k < m
          · have hkl : k < out.length := by have := HM.out; omega
            have HX := Lib.hid (get_of hkl)
            have hx := HVO.out out[k] (List.getElem_mem hkl)
            have HKS := Lib.hid (kbB_succ T U t (get_of hkl))
            obtain ⟨b0, off, cap', hv, hb0, hcell⟩ := ((HQ.out.same HK1.out).same (HS1.out.1.move HK.out).2.2).pos (by have := HN.out; omega)
            rw [← HN.out] at hv
            injection hv with e1 e2 e3
            subst e1 e3
            have c1 := hcell j t HT.out
            obtain ⟨b3, off3, cap3, hv3, hb3, hcell3⟩ := (HS1.out.1.move HK.out).ints.pos (by have := HM.out; omega)
            rw [HM.out] at hv3
            injection hv3 with e1 e2 e3
            subst e1 e3
            have c0 := IntsK.at hcell3 hkl
            generalize out[k] = x at c0 hx HX HKS
            clear hcell hcell3
            have d0 := (HR1.out.same (HS1.out.1.move HK.out).2.2).get (j := 0) rfl
            have d1 := (HR1.out.same (HS1.out.1.move HK.out).2.2).get (j := 1) rfl
            have hA := (HR1.out.same (HS1.out.1.move HK.out).2.2).lt
            have hw1 : IntKind.i64.wrap ((m : Int) - (k : Int)) = (m : Int) - (k : Int) := IntWalk.i64_in _ (by omega)
            have hw2 : IntKind.i64.wrap (t - x) = t - x := IntWalk.i64_in _ (by omega)
            have HCE : Hid (∀ W, Calls Try.prog 36 #[.agg #[.int .i64 T, .int .i64 U], .int .i64 ((m : Int) - (k : Int)), .int .i64 (t - x)] W fun e w' => e = .returned (.bool (early T U ((m : Int) - k) (t - x))) ∧ Kept (fun _ => False) W w') := Lib.hid fun W => early_c T U _ _ W ⟨t1, t2⟩ ⟨u1, u2⟩ (by omega) (by omega)
            rw [HM.out] at HKS
            obtain ⟨r, hr⟩ : ∃ r, early T U ((m : Int) - k) (t - x) = r := ⟨_, rfl⟩
            rw [hr] at HCE HKS
            clear hr
            obtain ⟨kb, hkb⟩ : ∃ kb, kbB T U out t k = kb := ⟨_, rfl⟩
            rw [hkb] at HKS ⊢
            clear hkb
            have hjn : j < n := hlt
            cases kb with
            | true =>
              go_wp2_with fail
              refine wp_region_class (fun W => (W.cell? ⟨A, 0, none⟩ = some (.int .i64 T) ∧ W.cell? ⟨A, 1, none⟩ = some (.int .i64 U) ∧ W.cell? ⟨b3, off3 + k, none⟩ = some (.int .i64 x) ∧ W.cell? ⟨b0, off + j, none⟩ = some (.int .i64 t)) ∧ (A < W.heap.size ∧ b0 < W.heap.size ∧ b3 < W.heap.size) ∧ Kept (fun _ => False) wr W) (by kernel_rfl) (by kernel_rfl) ⟨⟨d0, d1, c0, c1⟩, ⟨hA, hb0, hb3⟩, (Kept.refl _ _).drew⟩ ?_
              clear c0 c1 d0 d1 hA hb0 hb3
              iterate 16 (refine wpQuiet_yes rfl ?_ (fun W hC => ?_) ?_; rotate_left; (obtain ⟨⟨d0, d1, c0, c1⟩, -, -⟩ := hC; go_simp; rfl); go_simp)
              refine wpQuiet_yes rfl (.bool r) (fun W hC => ?_) ?_
              · obtain ⟨⟨d0, d1, c0, c1⟩, ⟨l1, l2, l3⟩, K0⟩ := hC
                go_simp
                refine (HCE.out W).mono ?_
                rintro e3 W' ⟨rfl, K⟩
                exact ⟨rfl, ⟨(K.cell (a := ⟨A, 0, none⟩) l1 (fun h => h)).trans d0, (K.cell (a := ⟨A, 1, none⟩) l1 (fun h => h)).trans d1, (K.cell (a := ⟨b3, off3 + k, none⟩) l3 (fun h => h)).trans c0, (K.cell (a := ⟨b0, off + j, none⟩) l2 (fun h => h)).trans c1⟩, ⟨Nat.lt_of_lt_of_le l1 K.size, Nat.lt_of_lt_of_le l2 K.size, Nat.lt_of_lt_of_le l3 K.size⟩, K0.trans K (fun _ _ h => h)⟩
              go_simp
              iterate 3 (refine wpQuiet_yes rfl ?_ (fun W hC => ?_) ?_; rotate_left; (obtain ⟨⟨d0, d1, c0, c1⟩, -, -⟩ := hC; go_simp; rfl); go_simp)
              refine wpQuiet_nil ?_
              intro W8 _ _ _ _ _ _ _ K8
              have HK8 := Lib.hid (HK.out.trans K8 (fun _ _ h => h))
              clear K8
              go_wp2
              go_roundw
              case rel => exact ⟨k + 1, by omega, by go_num, by rw [HKS.out]; rfl, HK8.out⟩
              case measure => simp; omega
            | false =>
              have HKD := Lib.hid (fun q => HK.out.drewN q)
              clear c0 c1 d0 d1
              go_wp2
              go_quiet (fail)
              go_wp2
              go_roundw
              case rel => exact ⟨k + 1, by omega, by go_num, by rw [HKS.out]; rfl, HKD.out _⟩
              case measure => simp; omega
          · obtain rfl : k = m := by omega
            rw [HKB.out]
            have HVR := Lib.hid (HS1.out.1.move HK.out)
            have HS2 : Hid (wr.ownsRow w1.heap.size 2 1 (.slice ps k cs) k (iv out)) := Lib.hid (by have := HVR.out.1; rw [HM.out] at this; exact this)
            obtain ⟨b0, off, cap', hv, hb0, hcell⟩ := ((HQ.out.same HK1.out).same HVR.out.2.2).pos (by have := HN.out; omega)
            rw [← HN.out] at hv
            injection hv with e1 e2 e3
            subst e1 e3
            have c1 := hcell j t HT.out
            clear hcell
            obtain ⟨kb, hkb⟩ : ∃ kb, keepB T U out t = kb := ⟨_, rfl⟩
            rw [hkb]
            have hjn : j < n := hlt
            cases kb with
            | true =>
              have KEEP : Hid (∀ g c w5, w5.ownsRow w1.heap.size 2 1 (.slice (some ⟨g, 0, none⟩) (k + 1) c) (k + 1) (iv out ++ [.int .i64 t]) → Kept (fun b => (Value.slice ps k cs).ownBlock = some b) wr w5 →
                  RS w1 w5 (.slice (some ⟨g, 0, none⟩) (k + 1) c) (out ++ [t]) ∧ out ++ [t] = thinF T U (l.take (j + 1)) ∧ (out ++ [t]).length ≤ j + 1 ∧ ∀ x ∈ out ++ [t], 0 ≤ x ∧ x ≤ 253402300799) := Lib.hid fun g c w5 ho K => by
                have hs := HVR.out.step (v2 := .slice (some ⟨g, 0, none⟩) (k + 1) c) (x2 := out ++ [t]) (by rw [HIV.out.1, HIV.out.2, HM.out]; exact ho) K
                exact ⟨hs, by rw [HST.out, ← HOUT.out]; unfold tstep; rw [if_pos hkb], by rw [HIV.out.2, HM.out]; omega, fun x hx => by
                  rcases List.mem_append.1 hx with hx | hx
                  · exact HVO.out x hx
                  · simp at hx; subst hx; exact hy⟩
              clear hkb
              go_wp2_with (at_builtin; go_loud (refine wpList_app2 el24 rfl (.tmp 49) (.tmp 54) rfl w1.heap.size (.slice ps k cs) k (iv out) rfl HS2.out rfl rfl (iv_one [t]) HB1.out.1 HB1.out.2 HVR.out.2.1 ?_; rintro g c w5 hown5 K5 -; have HKP := Lib.hid (KEEP.out g c w5 hown5 K5); clear hown5 K5))
              go_roundw
              case rel => exact ⟨j + 1, out ++ [t], by omega, by go_num, HKP.out.2.1, HKP.out.2.2.1, HKP.out.2.2.2, HKP.out.1⟩
              case measure => simp; omega
            | false =>
              have HNX : Hid (out = thinF T U (l.take (j + 1))) := Lib.hid (by rw [HST.out, ← HOUT.out]; unfold tstep; rw [if_neg (by rw [hkb]; decide)])
              clear hkb
              go_wp2
              go_roundw
              case rel => exact ⟨j + 1, out, by omega, by go_num, HNX.out, by have := HM.out; omega, HVO.out, HVR.out⟩
              case measure => simp; omega
      · have HE : Hid (out = thinF T U l) := Lib.hid (by rw [HOUT.out, List.take_of_length_le (by have := HN.out; omega)])
        have HF : Hid (RS w wr (.slice ps out.length cs) (if bothE T U l = 0 then thinF T U l else [])) := Lib.hid (by rw [if_pos HZ.out, ← HE.out]; exact HS.out.base HK1.out)
        go_wp2
        go_ret2
        exact ⟨_, by rw [HZ.out]; rfl, HF.out⟩
  · have HZ := Lib.hid hz
    obtain ⟨r, hr⟩ : ∃ r, bothE T U l = r := ⟨_, rfl⟩
    rw [hr] at hz
    have hb : (r != 0) = true := by simpa using hz
    have HRR := Lib.hid hr
    clear hz hr
    go_enter Try.func18, Try.ntmps18
    go_wp2_with (go_at_call 35; fail)
    refine (HC.out _ HK0.out).mono ?_
    rintro e w1 ⟨rfl, K1⟩
    rw [HRR.out]
    have HF : Hid (RS w w1 (.slice none 0 0) (if bothE T U l = 0 then thinF T U l else [])) := Lib.hid (by rw [if_neg HZ.out]; exact (RS.start w).move (HK0.out.trans K1 (fun _ _ h => h)))
    go_wp2
    go_ret2
    exact ⟨_, by rw [HRR.out]; rfl, HF.out⟩
end Go.Proofs.Ytelgknecainlfaa
