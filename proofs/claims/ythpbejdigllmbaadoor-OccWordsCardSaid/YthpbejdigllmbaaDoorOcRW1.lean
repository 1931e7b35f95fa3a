/- OcRW1: texts for the statements of this seat: contracts of functions, walks, plain laws. Conditions: none. -/
import Derived.Test.YthpbejdigllmbaaDoorOcRef
import Derived.Test.YthpbejdigllmbaaDoorOcRPlain
import Derived.Test.YthpbejdigllmbaaDoorGeMake
import Derived.Deep.RegionWith
namespace Go.Proofs.YthpbejdigllmbaaDoor
open Go.RowKit

theorem isSp_nat (j : Nat) (h : j < 6) : isSp ((j : Int) + 1) = true := by simp [isSp]; omega
theorem isSt_nat (s : Nat) (h : s < 7) : isSt (s : Int) = true := by simp [isSt]; omega
theorem lead_nat (s j : Nat) : lead s ((j : Int) + 1) = leadN s j := by unfold lead; rw [show ((j : Int) + 1).toNat - 1 = j by omega, Int.toNat_natCast]
theorem rlead_n (s j : Nat) (w : World) (hs : s < 7) (hj : j < 6) : Calls Tryd.prog 38 #[.int .i64 s, .int .i64 ((j : Int) + 1)] w fun e w' => e = .returned (.int .i64 (leadN s j)) ∧ w = w' :=
  rlead_b _ _ _ w (isSt_nat s hs) (isSp_nat j hj) (lead_nat s j)

theorem Tryd.info2 : (Tryd.prog.info? 2).map (fun i => (i.zero, i.size, i.bytes)) = some (some (.int .i64 0), 1, 8) := by kernel_rfl
theorem mk7 (w : World) : (Instr.makeSlice 57 (.int .i64 7) (.int .i64 7)).run Tryd.prog w = .ok (.slice (some ⟨w.heap.size, 0, none⟩) 7 7) (w.alloc (.cells #[.int .i64 0, .int .i64 0, .int .i64 0, .int .i64 0, .int .i64 0, .int .i64 0, .int .i64 0] 2)) :=
  make_p (P := Tryd.prog) Tryd.underlying57 Tryd.info2 rfl (by omega) 7 (by omega) w
set_option maxHeartbeats 2000000 in
set_option maxRecDepth 100000 in
theorem rwords_yes (n : Nat) (q : Int) (hn : n ≤ 60) (w : World) (hq : rsum (rv n) 7 = q) : Calls Tryd.prog 13 #[.int .i64 n] w (WordsPost q 0 w) := by
  have HQ := Lib.hid hq
  clear hq
  go_enter Tryd.func13, Tryd.ntmps13
  go_wp2
  have R0 : NumsAt (w.alloc (.cells #[.int .i64 1, .int .i64 0, .int .i64 0, .int .i64 0, .int .i64 0, .int .i64 0, .int .i64 0] 2)) w.heap.size (rv 0) := RowAt.new w 2 _
  go_loopw [4, 5] (fun v i wr => ∃ k b : Nat, k ≤ n ∧ i = .int .i64 k ∧ v = .slice (some ⟨b, 0, none⟩) 7 7 ∧ w.heap.size ≤ b ∧ NumsAt wr b (rv k) ∧ Kept (fun _ => False) w wr)
    (fun _ i _ => n - (intOf i).toNat)
  case atStart => exact ⟨0, _, by omega, rfl, rfl, Nat.le_refl _, R0, (Kept.refl _ w).alloc _⟩
  case round =>
    clear R0
    obtain ⟨k, b, hk, rfl, rfl, hb, N, K⟩ := hrel
    obtain ⟨wa, rfl⟩ : ∃ wa : World, wa = wr := ⟨_, rfl⟩
    have hls := K.size
    have hnl := N.lt
    by_cases hlt : k < n
    · have M0 : NumsAt (wa.alloc (.cells #[.int .i64 0, .int .i64 0, .int .i64 0, .int .i64 0, .int .i64 0, .int .i64 0, .int .i64 0] 2)) wa.heap.size (rMid (rv k) 0) := RowAt.new wa 2 _
      have HN := Lib.hid N
      have HK := Lib.hid K
      have hmk := mk7 wa
      clear N K
      go_wp2
      clear hmk
      go_loopw [7] (fun i wr => ∃ s : Nat, s ≤ 7 ∧ i = .int .i64 s ∧ Kept (fun _ => False) wa wr ∧ NumsAt wr wa.heap.size (rMid (rv k) s))
        (fun i _ => 7 - (intOf i).toNat)
      case atStart => exact ⟨0, by omega, rfl, (Kept.refl _ wa).alloc _, M0⟩
      case round =>
        clear M0
        obtain ⟨s, hs, rfl, K, M⟩ := hrel
        obtain ⟨wb, rfl⟩ : ∃ wb : World, wb = wr := ⟨_, rfl⟩
        by_cases hls2 : s < 7
        · have HKM := Lib.hid (And.intro K M)
          have hsb : decide ((s : Int) < 7) = true := by simp; omega
          clear K M
          go_wp2
          clear hsb
          go_loopw [8] (fun i wr => ∃ t : Nat, 1 ≤ t ∧ t ≤ 7 ∧ i = .int .i64 t ∧ Kept (fun _ => False) wa wr ∧ NumsAt wr wa.heap.size (rIn (rv k) (rMid (rv k) s) s (t - 1)))
            (fun i _ => 7 - (intOf i).toNat)
          case atStart => exact ⟨1, by omega, by omega, rfl, HKM.out.1, HKM.out.2⟩
          case round =>
            obtain ⟨t, ht1, ht7, rfl, K, M⟩ := hrel
            obtain ⟨wc, rfl⟩ : ∃ wc : World, wc = wr := ⟨_, rfl⟩
            by_cases hj6 : t < 7
            · obtain ⟨j, hjt⟩ : ∃ j, t - 1 = j := ⟨_, rfl⟩
              have hjj : j < 6 := by omega
              have htj : (t : Int) = (j : Int) + 1 := by omega
              have ht2 : t + 1 - 1 = j + 1 := by omega
              have HTJ := Lib.hid ht2
              rw [hjt] at M
              have hlen := rIn_len k (s := s) (j := j) (by omega) (by omega)
              have HR := Lib.hid (rlead_n s j · hls2 hjj)
              rw [← htj] at HR
              clear htj ht2 hjt
              by_cases hq : leadN s j = -1
              · have hw : rIn (rv k) (rMid (rv k) s) s (j + 1) = rIn (rv k) (rMid (rv k) s) s j := by
                  rw [rIn, rAdd, if_pos hq]
                have HY := Lib.hid (And.intro K (And.intro M hw))
                rw [hq] at HR
                clear hq hw K M hlen
                go_wp2_with (go_at_call 38; refine (HR.out _).mono ?_; rintro e w' ⟨rfl, rfl⟩)
                go_roundw
                case rel => exact ⟨t + 1, by omega, by omega, by go_num, HY.out.1, by rw [HTJ.out, HY.out.2.2]; exact HY.out.2.1⟩
                case measure => simp [intOf]; omega
              · have hlb := leadN_bd ⟨s, by omega⟩ ⟨j, by omega⟩
                simp only at hlb
                obtain ⟨l, hl⟩ := Int.eq_ofNat_of_zero_le (show 0 ≤ leadN s j by omega)
                have hl7 : l < 7 := by omega
                have hb1 := rIn_bd k (s := s) (j := j) (by omega) (by omega) l
                have hc1 := M.get (j := l) (by omega)
                have hf1 := M.fz l
                have hc2 := NumsAt.get (HN.out.same K) (j := s) (by rw [(rv_ok k).1]; omega)
                have hb2 := rv_bd k s
                have hw : rIn (rv k) (rMid (rv k) s) s (j + 1) = (rIn (rv k) (rMid (rv k) s) s j).set l ((rIn (rv k) (rMid (rv k) s) s j).getD l 0 + (rv k).getD s 0) := by
                  rw [rIn, rAdd, if_neg hq, hl]; rfl
                have M2 := M.set (j := l) (by omega) ((rIn (rv k) (rMid (rv k) s) s j).getD l 0 + (rv k).getD s 0)
                rw [← hw] at M2
                have K2 := K.setCell ⟨wa.heap.size, l, none⟩ (.int .i64 ((rIn (rv k) (rMid (rv k) s) s j).getD l 0 + (rv k).getD s 0)) (by simp)
                have HY := Lib.hid (And.intro K2 M2)
                rw [hl] at HR
                clear hq hl hw K M K2 M2 hlen
                generalize (rIn (rv k) (rMid (rv k) s) s j).getD l 0 = x at hc1 hb1 HY
                generalize (rv k).getD s 0 = y at hc2 hb2 HY
                obtain ⟨x0, x1⟩ := hb1
                obtain ⟨y0, y1⟩ := hb2
                go_wp2_with (go_at_call 38; refine (HR.out _).mono ?_; rintro e w' ⟨rfl, rfl⟩)
                have hsum : IntKind.i64.wrap (x + y) = x + y := IntWalk.i64_in _ (by omega)
                go_region_with (go_at_call 38; refine (HR.out _).mono ?_; rintro e w' ⟨rfl, rfl⟩)
                all_goals
                  clear hsum
                  go_wp2
                  go_roundw
                  case rel => exact ⟨t + 1, by omega, by omega, by go_num, HY.out.1.drew, by rw [HTJ.out]; exact HY.out.2.same ((Kept.refl _ _).drew)⟩
                  case measure => simp [intOf]; omega
            · obtain rfl : t = 7 := by omega
              have HY := Lib.hid (And.intro K M)
              clear K M
              go_wp2
              go_roundw
              case rel => exact ⟨s + 1, by omega, by go_num, HY.out.1, HY.out.2⟩
              case measure => simp [intOf]; omega
        · obtain rfl : s = 7 := by omega
          have M : NumsAt wb wa.heap.size (rv (k + 1)) := M
          have HY := Lib.hid (And.intro (HK.out.trans K (fun _ _ h => h)) M)
          clear K M
          go_wp2
          go_roundw
          case rel => exact ⟨k + 1, _, by omega, by go_num, rfl, by omega, HY.out.2, HY.out.1⟩
          case measure => simp [intOf]; omega
    · obtain rfl : n = k := by omega
      have HK := Lib.hid K
      have HN := Lib.hid N
      clear K N
      go_wp2
      go_loop [9, 10] (fun a i => ∃ s : Nat, s ≤ 7 ∧ i = .int .i64 s ∧ a = .int .i64 (rsum (rv n) s)) (fun _ i => 7 - (intOf i).toNat)
      case atStart => exact ⟨0, by omega, rfl, rfl⟩
      case round =>
        obtain ⟨s, hs, rfl, rfl⟩ := hrel
        by_cases hs7 : s < 7
        · have hc := NumsAt.get HN.out (j := s) (by rw [(rv_ok n).1]; omega)
          have hb1 := rsum_bd n s
          have hb2 := rv_bd n s
          have hw : Hid (rsum (rv n) (s + 1) = rsum (rv n) s + (rv n).getD s 0) := Lib.hid rfl
          generalize (rv n).getD s 0 = y at hc hb2 hw
          obtain ⟨x0, x1⟩ := hb1
          obtain ⟨y0, y1⟩ := hb2
          generalize rsum (rv n) s = x at x0 x1 hw
          go_wp2
          go_round
          case rel => exact ⟨s + 1, by omega, by go_num, by rw [hw.out]⟩
          case measure => simp [intOf]; omega
        · obtain rfl : s = 7 := by omega
          rw [HQ.out]
          go_wp2
          go_ret2
          exact ⟨rfl, HK.out⟩
theorem rwords_no (n : Int) (w : World) (hn : ¬ (0 ≤ n ∧ n ≤ 60)) : Calls Tryd.prog 13 #[.int .i64 n] w (WordsPost 0 3 w) := by
  by_cases h0 : n < 0
  · clear hn
    go_enter Tryd.func13, Tryd.ntmps13
    go_wp2
    go_ret2
    exact ⟨rfl, Kept.refl _ _⟩
  · have h1 : 60 < n := by omega
    clear hn
    go_enter Tryd.func13, Tryd.ntmps13
    go_wp2
    go_ret2
    exact ⟨rfl, Kept.refl _ _⟩
theorem rwords_c (n x e : Int) (w : World) (h : wordsF n = (x, e)) : Calls Tryd.prog 13 #[.int .i64 n] w (WordsPost x e w) := by
  unfold wordsF at h
  split at h
  · rename_i hh
    obtain ⟨h1, rfl⟩ := Prod.mk.inj h
    obtain ⟨m, rfl⟩ := Int.eq_ofNat_of_zero_le hh.1
    exact rwords_yes m x (by omega) w ((rv_sum m).trans h1)
  · rename_i hh; obtain ⟨rfl, rfl⟩ := Prod.mk.inj h; exact rwords_no n w hh

theorem lawWords_c (n : Int) (w : World) (T : Tbl w) : Calls Tryd.prog 3 #[.int .i64 n] w fun e w' => e = .returned (.bool true) ∧ Kept (fun _ => False) w w' := by
  obtain ⟨x, e, h⟩ : ∃ x e, wordsF n = (x, e) := ⟨_, _, rfl⟩
  have H1 := Lib.hid (words_c n x e w T h)
  have HT := Lib.hid T
  have HH := Lib.hid h
  clear T h
  go_enter Tryd.func3, Tryd.ntmps3
  go_wp2_with fail
  refine H1.out.mono ?_
  rintro r w1 ⟨rfl, K1⟩
  have H2 := Lib.hid (rwords_c n x e w1 HH.out)
  have HK1 := Lib.hid K1
  clear K1 H1
  go_wp2_with fail
  refine H2.out.mono ?_
  rintro r w2 ⟨rfl, K2⟩
  have K2' := HK1.out.trans K2 (fun _ _ h => h)
  have H3 := Lib.hid (works_c w2 (HT.out.same K2'))
  have HK2 := Lib.hid K2'
  clear K2 K2' H2
  go_wp2_with fail
  refine H3.out.mono ?_
  rintro r w3 ⟨rfl, K3⟩
  go_wp2
  go_ret
  exact ⟨rfl, HK2.out.trans K3 (fun _ _ h => h)⟩
end Go.Proofs.YthpbejdigllmbaaDoor
