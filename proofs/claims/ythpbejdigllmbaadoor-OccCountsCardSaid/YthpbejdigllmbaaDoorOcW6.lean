/- OcW6: texts for the statements of this seat: contracts of functions, walks, plain laws. Conditions: none. -/
import Derived.Test.YthpbejdigllmbaaDoorOcW4
import Derived.Test.YthpbejdigllmbaaDoorGeRow
import Derived.RegionTactic
import Derived.ChangeAlike
import Derived.BigRegion
import Derived.IntWalk
namespace Go.Proofs.YthpbejdigllmbaaDoor
open Go.RowKit

def tabV : List Value := octab.map (Value.int .i64)
def rowV (s : Nat) : List Value := (row6 s).map (Value.int .i64)
theorem rowV_length (s : Nat) : (rowV s).length = 6 := by simp [rowV, row6]
theorem tab_row : ∀ s : Fin 7, (tabV.drop (s.1 * 6)).take 6 = rowV s.1 := by
  intro s
  have : ∀ s : Fin 7, (octab.drop (s.1 * 6)).take 6 = row6 s.1 := by decide +kernel
  unfold tabV rowV
  rw [← List.map_drop, ← List.map_take, this s]
theorem tabV_length : tabV.length = 42 := rfl
theorem tab_range {w : World} (T : Tbl w) : w.rangeAt 0 0 tabV := by
  intro j v hv
  obtain ⟨hj, rfl⟩ := List.getElem?_eq_some_iff.1 hv
  rw [tabV_length] at hj
  rw [Nat.zero_add, T.leads _ hj]
  have : j < octab.length := hj
  simp [tabV, this]
theorem run_tab (k : Nat) (hk : k < 7) (w : World) : (Instr.index 56 (.agg tabV.toArray) (.int .i64 k)).run Tryd.prog w = .ok (.agg (rowV k).toArray) w := by
  rw [run_indexN 56 55 7 6 _ k w Tryd.underlying56 Tryd.isAgg55 Tryd.sizeOf55 hk, ← tab_row ⟨k, hk⟩]
  simp
theorem run_row (s k : Nat) (hk : k < 6) (w : World) : (Instr.index 55 (.agg (rowV s).toArray) (.int .i64 k)).run Tryd.prog w = .ok (.int .i64 (leadN s k)) w :=
  run_index1 (P := Tryd.prog) 55 3 6 _ k _ w Tryd.underlying55 Tryd.isAgg3 Tryd.sizeOf3 hk (row_cell s k hk)
theorem rowV_one (s : Nat) : ∀ v ∈ rowV s, v.oneCell' = true := by
  intro v hv
  simp [rowV] at hv
  obtain ⟨x, _, rfl⟩ := hv
  rfl
def WordsPost (x e : Int) (w : World) (r : Ending) (w' : World) : Prop := r = .returned (.tuple #[.int .i64 x, .int .i64 e]) ∧ Kept (fun _ => False) w w'
theorem Tryd.size54 : (Tryd.prog.info? 54).map (·.size) = some 7 := by kernel_rfl
set_option maxHeartbeats 1000000 in
set_option maxRecDepth 100000 in
theorem words_yes (n : Nat) (q : Int) (hn : n ≤ 60) (w : World) (T : Tbl w) (hq : (wv n).getD 0 0 = q) : Calls Tryd.prog 12 #[.int .i64 n] w (WordsPost q 0 w) := by
  have HT := Lib.hid T
  have HQ := Lib.hid hq
  clear hq
  clear T
  go_enter Tryd.func12, Tryd.ntmps12
  go_wp2
  go_loopw [17] (fun i wr => ∃ k : Nat, k ≤ 7 ∧ i = .int .i64 k ∧ Kept (fun _ => False) w wr ∧ NumsAt wr w.heap.size ((List.replicate k 1) ++ (List.replicate (7 - k) 0)))
    (fun i _ => 7 - (intOf i).toNat)
  case atStart => exact ⟨0, by omega, rfl, (Kept.refl _ w).alloc _, RowAt.new w 54 _⟩
  case round =>
    obtain ⟨k, hk, rfl, K, N⟩ := hrel
    by_cases hlt : k < 7
    · have hc := N.get (j := k) (by simp; omega)
      have hf := N.fz k
      have N2 := N.set (j := k) (by simp; omega) 1
      have K2 := K.setCell ⟨w.heap.size, k, none⟩ (.int .i64 1) (by simp)
      have he : ((List.replicate k (1 : Int)) ++ (List.replicate (7 - k) 0)).set k 1 = (List.replicate (k + 1) 1) ++ (List.replicate (7 - (k + 1)) 0) := by
        rw [List.set_append_right _ _ (by simp)]
        simp
        rw [show 7 - k = (7 - (k + 1)) + 1 from by omega, List.replicate_succ, List.replicate_succ']
        simp
      rw [he] at N2
      have HX := Lib.hid (And.intro K2 N2)
      clear he N2 K2 K N
      go_wp2
      go_roundw
      case rel => exact ⟨k + 1, by omega, by go_num, HX.out.1, HX.out.2⟩
      case measure => simp [intOf]; omega
    · obtain rfl : k = 7 := by omega
      have N : NumsAt wr w.heap.size (wv 0) := N
      have HTr := Lib.hid (HT.out.same K)
      obtain ⟨wo, rfl⟩ : ∃ wo : World, wo = wr := ⟨_, rfl⟩
      clear hk
      go_wp2
      go_loopw [24] (fun i wr => ∃ k : Nat, k ≤ n ∧ i = .int .i64 k ∧ Kept (fun _ => False) w wr ∧ Tbl wr ∧ NumsAt wr w.heap.size (wv k))
        (fun i _ => n - (intOf i).toNat)
      case atStart => exact ⟨0, by omega, rfl, K, HTr.out, N⟩
      case round =>
        clear K N HTr
        obtain ⟨k, hk, rfl, K, T, N⟩ := hrel
        obtain ⟨wa, rfl⟩ : ∃ wa : World, wa = wr := ⟨_, rfl⟩
        have hls := K.size
        have hnl := N.lt
        by_cases hlt : k < n
        · have HN := Lib.hid N
          have HTT := Lib.hid T
          have HK := Lib.hid K
          clear N T K
          go_wp2_with (refine wpList_load_mid rfl 56 (.global 0) rfl 0 0 rfl tabV _ (tab_range (HTT.out.same ((Kept.refl _ wa).alloc _))) Tryd.underlying56 rfl Tryd.size56 ?_)
          have HR := Lib.hid run_tab
          have HL : Hid (tabV.length = 42) := Lib.hid rfl
          generalize tabV = TV at HR HL
          go_loopw [27] (fun i wr => ∃ s : Nat, s ≤ 7 ∧ i = .int .i64 s ∧ Kept (fun _ => False) wa wr ∧ NumsAt wr wa.heap.size (wMid (wv k) s))
            (fun i _ => 7 - (intOf i).toNat)
          case atStart => exact ⟨0, by omega, rfl, (Kept.refl _ wa).alloc _, RowAt.new wa 54 _⟩
          case round =>
            obtain ⟨s, hs, rfl, K, M⟩ := hrel
            obtain ⟨wb, rfl⟩ : ∃ wb : World, wb = wr := ⟨_, rfl⟩
            have hlb := K.size
            have hml := M.lt
            by_cases hls2 : s < 7
            · have hix := HR.out s hls2
              have NEW := RowAt.new wb 55 #[.int .i64 0, .int .i64 0, .int .i64 0, .int .i64 0, .int .i64 0, .int .i64 0]
              have hth := NEW.there
              have hrl := rowV_length s
              obtain ⟨W2, hW2⟩ : ∃ W2, (wb.alloc (.cells #[.int .i64 0, .int .i64 0, .int .i64 0, .int .i64 0, .int .i64 0, .int .i64 0] 55)).setCells wb.heap.size 0 (rowV s).toArray.toList = W2 := ⟨_, rfl⟩
              have ST : RowAt W2 wb.heap.size (rowV s) := by rw [← hW2]; exact NEW.store _ (by simp [hrl])
              have KS : Kept (fun _ => False) wb W2 := by rw [← hW2]; exact ((Kept.refl _ wb).alloc _).setCells _ _ (by simp) _
              have HX := Lib.hid (And.intro hth (And.intro ST (And.intro KS hrl)))
              have HW := Lib.hid hW2
              clear hW2
              have HK := Lib.hid K
              have HM := Lib.hid M
              clear NEW hth hrl ST KS K M HL
              have HA1 : Hid ((wb.alloc (.cells #[.int .i64 0, .int .i64 0, .int .i64 0, .int .i64 0, .int .i64 0, .int .i64 0] 55)).there wb.heap.size 0 (rowV s).toArray.size) := Lib.hid (by simpa [HX.out.2.2.2] using HX.out.1)
              have HA2 : Hid ((Tryd.prog.info? 55).map (·.size) = some (rowV s).toArray.size) := Lib.hid (by rw [Tryd.size55]; simp [HX.out.2.2.2])
              have HA3 := Lib.hid (all_oneCell_toArray (rowV_one s))
              have HA4 : Hid ((Tryd.prog.info? 55).map (·.size) = some (rowV s).length) := Lib.hid (by rw [Tryd.size55, HX.out.2.2.2])
              have HA5 := Lib.hid (HX.out.2.1.cell)
              go_wp2_with (first | (refine wpList_store_mid rfl 55 (.tmp 8) (.tmp 30) rfl wb.heap.size 0 (rowV s).toArray rfl rfl HA1.out HA2.out HA3.out ?_; rw [HW.out]) | (refine wpList_load_mid rfl 55 (.tmp 8) rfl wb.heap.size 0 rfl (rowV s) _ HA5.out Tryd.underlying55 rfl HA4.out ?_))
              have KB : Kept (fun _ => False) wa W2 := HK.out.trans HX.out.2.2.1 (fun _ _ h => h)
              have MB := HM.out.same HX.out.2.2.1
              have HKM := Lib.hid (And.intro KB MB)
              have hl2 := KB.size
              have HRW := Lib.hid (run_row s)
              clear KB MB HA1 HA2 HA3 HA4 HA5 HW
              generalize (rowV s).toArray = RV at HRW
              go_loopw [32] (fun i wr => ∃ j : Nat, j ≤ 6 ∧ i = .int .i64 j ∧ Kept (fun _ => False) wa wr ∧ NumsAt wr wa.heap.size (wIn (wv k) (wMid (wv k) s) s j))
                (fun i _ => 6 - (intOf i).toNat)
              case atStart => exact ⟨0, by omega, rfl, HKM.out.1, HKM.out.2⟩
              case round =>
                obtain ⟨j, hj, rfl, K, M⟩ := hrel
                obtain ⟨wc, rfl⟩ : ∃ wc : World, wc = wr := ⟨_, rfl⟩
                have hlc := K.size
                by_cases hj6 : j < 6
                · have hiy := HRW.out j hj6
                  have hlen : (wIn (wv k) (wMid (wv k) s) s j).length = 7 := (((wv_ok k).2.2 ⟨s, by omega⟩).2 ⟨j, by omega⟩).1
                  have hb1 := wIn_bd k (s := s) (j := j) (by omega) (by omega) s
                  by_cases hq : leadN s j = -1
                  · have hw : wIn (wv k) (wMid (wv k) s) s (j + 1) = wIn (wv k) (wMid (wv k) s) s j := by
                      rw [wIn, wAdd, if_pos hq]
                    have HY := Lib.hid (And.intro K (And.intro M hw))
                    rw [hq] at hiy
                    clear hq hw K M hlen hb1
                    go_wp2
                    go_roundw
                    case rel => exact ⟨j + 1, by omega, by go_num, HY.out.1, by rw [HY.out.2.2]; exact HY.out.2.1⟩
                    case measure => simp [intOf]; omega
                  · have hlb := leadN_bd ⟨s, by omega⟩ ⟨j, by omega⟩
                    simp only at hlb
                    obtain ⟨l, hl⟩ := Int.eq_ofNat_of_zero_le (show 0 ≤ leadN s j by omega)
                    have hl7 : l < 7 := by omega
                    have hc1 := M.get (j := s) (by omega)
                    have hf1 := M.fz s
                    have hc2 := NumsAt.get (HN.out.same K) (j := l) (by rw [(wv_ok k).1]; omega)
                    have hb2 := wv_bd k l
                    have hw : wIn (wv k) (wMid (wv k) s) s (j + 1) = (wIn (wv k) (wMid (wv k) s) s j).set s ((wIn (wv k) (wMid (wv k) s) s j).getD s 0 + (wv k).getD l 0) := by
                      rw [wIn, wAdd, if_neg hq, hl]; rfl
                    have M2 := M.set (j := s) (by omega) ((wIn (wv k) (wMid (wv k) s) s j).getD s 0 + (wv k).getD l 0)
                    rw [← hw] at M2
                    have K2 := K.setCell ⟨wa.heap.size, s, none⟩ (.int .i64 ((wIn (wv k) (wMid (wv k) s) s j).getD s 0 + (wv k).getD l 0)) (by simp)
                    have HY := Lib.hid (And.intro K2 M2)
                    rw [hl] at hiy
                    have hqb : ((l : Int) != -1) = true := by simp
                    clear hq hl hw K M K2 M2 hlen
                    generalize (wIn (wv k) (wMid (wv k) s) s j).getD s 0 = x at hc1 hb1 HY
                    generalize (wv k).getD l 0 = y at hc2 hb2 HY
                    obtain ⟨x0, x1⟩ := hb1
                    obtain ⟨y0, y1⟩ := hb2
                    go_wp2
                    go_region
                    all_goals
                      go_wp2
                      go_roundw
                      case rel => exact ⟨j + 1, by omega, by go_num, HY.out.1.drew, HY.out.2.same ((Kept.refl _ _).drew)⟩
                      case measure => simp [intOf]; omega
                · obtain rfl : j = 6 := by omega
                  have HY := Lib.hid (And.intro K M)
                  clear K M
                  go_wp2
                  go_roundw
                  case rel => exact ⟨s + 1, by omega, by go_num, HY.out.1, HY.out.2⟩
                  case measure => simp [intOf]; omega
            · obtain rfl : s = 7 := by omega
              have M : RowAt wb wa.heap.size ((wv (k + 1)).map (Value.int .i64)) := by rw [← wv_next]; exact M
              have N2 := HN.out.same K
              have hl1 : ((wv (k + 1)).map (Value.int .i64)).length = 7 := by rw [List.length_map]; exact (wv_ok (k + 1)).1
              have hl0 : ((wv k).map (Value.int .i64)).length = 7 := by rw [List.length_map]; exact (wv_ok k).1
              have HN2 := Lib.hid N2
              have HM := Lib.hid M
              have HK2 := Lib.hid (HK.out.trans K (fun _ _ h => h))
              have HT2 := Lib.hid (HTT.out.same K)
              have HONE := Lib.hid (all_oneCell_toArray (cs := (wv (k + 1)).map (Value.int .i64)) (fun v hv => by simp at hv; obtain ⟨x, _, rfl⟩ := hv; rfl))
              generalize hL1 : (wv (k + 1)).map (Value.int .i64) = L1 at HM hl1 HONE
              have HL1 := Lib.hid hL1
              have HA1 : Hid (wb.there w.heap.size 0 L1.toArray.size) := Lib.hid (by have := HN2.out.there; simpa [hl1, hl0] using this)
              have HA2 : Hid ((Tryd.prog.info? 54).map (·.size) = some L1.toArray.size) := Lib.hid (by rw [Tryd.size54]; simp [hl1])
              have HA4 : Hid ((Tryd.prog.info? 54).map (·.size) = some L1.length) := Lib.hid (by rw [Tryd.size54, hl1])
              have HA5 := Lib.hid HM.out.cell
              obtain ⟨W2, hW2⟩ : ∃ W2, wb.setCells w.heap.size 0 L1.toArray.toList = W2 := ⟨_, rfl⟩
              have ST : RowAt W2 w.heap.size L1 := by rw [← hW2]; exact HN2.out.store _ (by simp [hl1, hl0])
              have KS : Kept (fun b => b = w.heap.size) wb W2 := by rw [← hW2]; exact (Kept.refl (fun b => b = w.heap.size) wb).setCells _ _ (fun _ => rfl) _
              have HX := Lib.hid (And.intro ST KS)
              have HW := Lib.hid hW2
              have hlt1 := HT.out.lt
              clear hL1 hW2 N2 M K ST KS hl1 hl0
              go_wp2_with (first | (refine wpList_load_mid rfl 54 (.tmp 6) rfl wa.heap.size 0 rfl L1 _ HA5.out Tryd.underlying54 rfl HA4.out ?_) | (refine wpList_store_mid rfl 54 (.tmp 4) (.tmp 47) rfl w.heap.size 0 L1.toArray rfl rfl HA1.out HA2.out HONE.out ?_; rw [HW.out]))
              go_roundw
              case rel => exact ⟨_, _, _, _, .int .i64 ((k + 1 : Nat) : Int), ⟨k + 1, by omega, rfl, HK2.out.trans HX.out.2 (fun i hi h => by omega), HT2.out.kept HX.out.2 (by omega) (by omega), by have := HX.out.1; rw [← HL1.out] at this; exact this⟩, rfl, rfl, rfl, rfl, by go_num⟩
              case measure => simp [intOf]; omega
        · obtain rfl : n = k := by omega
          have hc := N.get (j := 0) (by rw [(wv_ok n).1]; omega)
          have HK := Lib.hid K
          rw [HQ.out] at hc
          clear N T K
          go_wp2
          go_ret2
          exact ⟨rfl, HK.out⟩
theorem words_no (n : Int) (w : World) (hn : ¬ (0 ≤ n ∧ n ≤ 60)) : Calls Tryd.prog 12 #[.int .i64 n] w (WordsPost 0 3 w) := by
  by_cases h0 : n < 0
  · clear hn
    go_enter Tryd.func12, Tryd.ntmps12
    go_wp2
    go_ret2
    exact ⟨rfl, Kept.refl _ _⟩
  · have h1 : 60 < n := by omega
    clear hn
    go_enter Tryd.func12, Tryd.ntmps12
    go_wp2
    go_ret2
    exact ⟨rfl, Kept.refl _ _⟩
theorem words_c (n x e : Int) (w : World) (T : Tbl w) (h : wordsF n = (x, e)) : Calls Tryd.prog 12 #[.int .i64 n] w (WordsPost x e w) := by
  unfold wordsF at h
  split at h
  · rename_i hh
    obtain ⟨h1, rfl⟩ := Prod.mk.inj h
    obtain ⟨m, rfl⟩ := Int.eq_ofNat_of_zero_le hh.1
    exact words_yes m x (by omega) w T h1
  · rename_i hh; obtain ⟨rfl, rfl⟩ := Prod.mk.inj h; exact words_no n w hh
end Go.Proofs.YthpbejdigllmbaaDoor
