/- TrTally: texts for the statements of this seat: contracts of functions, walks, plain laws. Conditions: none. -/
import Derived.Test.YtfhlllmicobafaaTrRChk
import Derived.Test.YtfhlllmicobafaaTrLaun
set_option linter.all false
/- Tally, of both. -/
namespace Go.Proofs.Ytfhlllmicobafaa
open Go.RowKit
open Tr (Ev)

/-- How many events of each kind there are. -/
def tally (l : List Ev) : List Int := (List.range 9).map fun (k : Nat) => ((l.countP fun x => decide (x.kind = (k : Int)) : Nat) : Int)
theorem tally_len (l : List Ev) : (tally l).length = 9 := by simp [tally]
theorem tally_nil : tally [] = List.replicate 9 0 := by rfl
theorem tally_get (l : List Ev) {k : Nat} (hk : k < 9) : (tally l)[k]? = some ((l.countP fun x => decide (x.kind = (k : Int)) : Nat) : Int) := by
  unfold tally
  rw [List.getElem?_map, List.getElem?_range hk]; rfl
theorem tally_snoc {l : List Ev} {x : Ev} {k : Nat} (hx : x.kind = (k : Int)) (hk : k < 9) : tally (l ++ [x]) = (tally l).set k (((l.countP fun x => decide (x.kind = (k : Int)) : Nat) : Int) + 1) := by
  apply List.ext_getElem?
  intro i
  by_cases hi : i < 9
  · rw [tally_get _ hi]
    by_cases e : i = k
    · subst e
      rw [List.getElem?_set_self (by rw [tally_len]; exact hi), List.countP_append]
      simp [hx]
    · rw [List.getElem?_set_ne (fun q => e q.symm), tally_get _ hi, List.countP_append]
      have : ¬ x.kind = (i : Int) := by omega
      simp [this]
  · rw [List.getElem?_eq_none (by rw [tally_len]; omega), List.getElem?_eq_none (by rw [List.length_set, tally_len]; omega)]
theorem Try.size49 : (Try.prog.info? 49).map (·.size) = some 9 := by kernel_rfl
def iv9 (l : List Int) : List Value := l.map (Value.int .i64)
theorem iv9_one (l : List Int) : ∀ u ∈ iv9 l, u.oneCell' = true := by
  intro u hu
  obtain ⟨x, -, rfl⟩ := List.mem_map.1 hu
  rfl
def tallyC (l : List Ev) : List Int := if Tr.bad 64 l = 0 then tally l else List.replicate 9 0
def TallyPost (l : List Ev) (w : World) (r : Ending) (w' : World) : Prop := r = .returned (.tuple #[.agg (iv9 (tallyC l)).toArray, .int .i64 (Tr.bad 64 l)]) ∧ Kept (fun _ => False) w w'
theorem resultsT {f : Func} (hf : f.results = #[.cell 2 49, .tmp 3]) {tmps : Array Value} {w : World} {b : Nat} {xs : List Int} {c : Int} (h2 : tmps[2]? = some (.pointer (some ⟨b, 0, none⟩))) (h3 : tmps[3]? = some (.int .i64 c))
    (hb : w.rangeAt b 0 (iv9 xs)) (hl : xs.length = 9) : (results f tmps).run Try.prog w = .ok (.tuple #[.agg (iv9 xs).toArray, .int .i64 c]) w := by
  rw [results_cell_tmp hf]
  have e2 : tmps.getD 2 undef = .pointer (some ⟨b, 0, none⟩) := by simp [h2]
  have e3 : tmps.getD 3 undef = .int .i64 c := by simp [h3]
  rw [e2, e3]
  have hr := run_loadVar_mid (P := Try.prog) w b 0 49 (iv9 xs) _ hb Try.underlying49 rfl (by rw [Try.size49]; simp [iv9, hl])
  simp [asAddr, Result.andThen, hr]

set_option maxRecDepth 100000 in
set_option maxHeartbeats 4000000 in
theorem tally_c {w : World} {v : Value} {l : List Ev} (h : Evs w v l) (hw : EvW l) (hl : l.length ≤ 1000000) : Calls Try.prog 30 #[v] w (TallyPost l w) := by
  have r2 := RowAt.new w 49 #[.int .i64 0, .int .i64 0, .int .i64 0, .int .i64 0, .int .i64 0, .int .i64 0, .int .i64 0, .int .i64 0, .int .i64 0]
  have r4 := RowAt.new (w.alloc (.cells #[.int .i64 0, .int .i64 0, .int .i64 0, .int .i64 0, .int .i64 0, .int .i64 0, .int .i64 0, .int .i64 0, .int .i64 0] 49)) 49 #[.int .i64 0, .int .i64 0, .int .i64 0, .int .i64 0, .int .i64 0, .int .i64 0, .int .i64 0, .int .i64 0, .int .i64 0]
  have k0 : Kept (fun _ => False) w ((w.alloc (.cells #[.int .i64 0, .int .i64 0, .int .i64 0, .int .i64 0, .int .i64 0, .int .i64 0, .int .i64 0, .int .i64 0, .int .i64 0] 49)).alloc (.cells #[.int .i64 0, .int .i64 0, .int .i64 0, .int .i64 0, .int .i64 0, .int .i64 0, .int .i64 0, .int .i64 0, .int .i64 0] 49)) := ((Kept.refl _ _).alloc _).alloc _
  rw [World.size_alloc] at r4
  have R2 : Hid (RowAt ((w.alloc (.cells #[.int .i64 0, .int .i64 0, .int .i64 0, .int .i64 0, .int .i64 0, .int .i64 0, .int .i64 0, .int .i64 0, .int .i64 0] 49)).alloc (.cells #[.int .i64 0, .int .i64 0, .int .i64 0, .int .i64 0, .int .i64 0, .int .i64 0, .int .i64 0, .int .i64 0, .int .i64 0] 49)) w.heap.size (iv9 (List.replicate 9 0))) := Lib.hid (r2.same ((Kept.refl _ _).alloc _))
  have R4 : Hid (RowAt ((w.alloc (.cells #[.int .i64 0, .int .i64 0, .int .i64 0, .int .i64 0, .int .i64 0, .int .i64 0, .int .i64 0, .int .i64 0, .int .i64 0] 49)).alloc (.cells #[.int .i64 0, .int .i64 0, .int .i64 0, .int .i64 0, .int .i64 0, .int .i64 0, .int .i64 0, .int .i64 0, .int .i64 0] 49)) (w.heap.size + 1) (iv9 (List.replicate 9 0))) := Lib.hid r4
  have HC := Lib.hid (walk_c (h.same k0) hw hl 64 (by omega) (by omega))
  obtain ⟨c, hc⟩ : ∃ c, Tr.bad 64 l = c := ⟨_, rfl⟩
  have HB := Lib.hid hc
  have HB2 : Hid ((Tr.chkFrom 64 [] l).2 = c) := Lib.hid hc
  obtain ⟨ci, hci⟩ : ∃ ci, (Tr.chkFrom 64 [] l).1 = ci := ⟨_, rfl⟩
  rw [HB2.out, hci] at HC
  have HQ := Lib.hid (h.same k0)
  have HQ0 := Lib.hid h
  have HK0 := Lib.hid k0
  obtain ⟨aa, cap, rfl⟩ := h.len
  obtain ⟨N, hN⟩ : ∃ N : Nat, N = l.length := ⟨_, rfl⟩
  rw [← hN] at hl HC HQ HQ0 ⊢
  have HN := Lib.hid hN
  clear h hw r2 r4 k0 hN hc hci
  go_enter Try.func30, Try.ntmps30
  go_wp2_with (go_at_call 47; fail)
  obtain ⟨A, hA⟩ : ∃ A, w.heap.size = A := ⟨_, rfl⟩
  have HAS := Lib.hid hA
  rw [hA] at R2 R4 ⊢
  clear hA
  refine HC.out.mono ?_
  rintro e w1 ⟨rfl, K1⟩
  have S2 := Lib.hid (R2.out.same K1)
  have S4 := Lib.hid (R4.out.same K1)
  have HK1 := Lib.hid (HK0.out.trans K1 (fun _ _ h => h))
  have HQ1 := Lib.hid (HQ.out.same K1)
  clear K1 R2 R4 HC HQ HK0
  -- how it ends
  have END : Hid (∀ (W : World) (xs : List Int), xs.length = 9 → Kept (fun b => b = A + 1) w1 W → RowAt W (A + 1) (iv9 xs) → W.there A 0 (iv9 xs).toArray.size ∧ (Try.prog.info? 49).map (·.size) = some (iv9 xs).toArray.size ∧ (iv9 xs).toArray.all (·.oneCell') = true ∧ (Try.prog.info? 49).map (·.size) = some (iv9 xs).length ∧ W.rangeAt (A + 1) 0 (iv9 xs) ∧
      (W.setCells A 0 (iv9 xs).toArray.toList).rangeAt A 0 (iv9 xs) ∧ Kept (fun _ => False) w (W.setCells A 0 (iv9 xs).toArray.toList)) := Lib.hid fun W xs hx K hr => by
    have s2 := S2.out.kept K (by omega)
    have hth : W.there A 0 (iv9 xs).toArray.size := by
      have := s2.there
      simpa [iv9, hx] using this
    refine ⟨hth, by rw [Try.size49]; simp [iv9, hx], all_oneCell_toArray (iv9_one xs), by rw [Try.size49]; simp [iv9, hx], hr.cell, ?_, ?_⟩
    · exact (s2.store (iv9 xs) (by simp [iv9, hx])).cell
    · have hs := HAS.out
      exact (HK1.out.trans K (fun i hi q => by omega)).trans ((Kept.refl (fun b => b = A) W).setCells A _ (fun _ => rfl) 0) (fun i hi q => by omega)
  by_cases hc0 : ¬ c = 0
  · have hb1 : (c != 0) = true := by simpa using hc0
    have hb2 : (c == 0) = false := by simpa using hc0
    have HT : Hid (tallyC l = List.replicate 9 0) := Lib.hid (by unfold tallyC; rw [if_neg (by rw [HB.out]; exact hc0)])
    obtain ⟨g1, g2, g3, g4, g5, g6, g7⟩ := END.out w1 (List.replicate 9 0) (by simp) (Kept.refl _ _) S4.out
    have G1 := Lib.hid g1
    have G2 := Lib.hid g2
    have G3 := Lib.hid g3
    have G4 := Lib.hid g4
    have G5 := Lib.hid g5
    have G6 := Lib.hid g6
    have G7 := Lib.hid g7
    clear g1 g2 g3 g4 g5 g6 g7 hc0
    go_wp2_with (first | (refine wpList_load_mid rfl 49 (.tmp 4) rfl (A + 1) 0 rfl (iv9 (List.replicate 9 0)) _ G5.out Try.underlying49 rfl G4.out ?_) | (refine wpList_store_mid rfl 49 (.tmp 2) (.tmp 16) rfl A 0 (iv9 (List.replicate 9 0)).toArray rfl rfl G1.out G2.out G3.out ?_))
    exact bodyPost_ret (resultsT rfl rfl rfl G6.out (by simp)) rfl ⟨by rw [HT.out, HB.out], G7.out⟩
  · obtain rfl := Decidable.not_not.1 hc0
    clear hc0
    have HOK := Lib.hid (Tr.bad_ok HB.out)
    have HT : Hid (tallyC l = tally l) := Lib.hid (by unfold tallyC; rw [if_pos HB.out])
    have HS0 : Hid (RowAt w1 (A + 1) (iv9 (tally (l.take 0)))) := Lib.hid (by rw [List.take_zero, tally_nil]; exact S4.out)
    go_wp2
    go_loopw [20] (fun q wr => ∃ j : Nat, j ≤ N ∧ q = .int .i64 j ∧ Kept (fun b => b = A + 1) w1 wr ∧ RowAt wr (A + 1) (iv9 (tally (l.take j)))) (fun q _ => match q with | .int _ x => (N - x).toNat | _ => 0)
    case atStart => exact ⟨0, Nat.zero_le _, rfl, Kept.refl _ _, HS0.out⟩
    case round =>
      obtain ⟨j, hj, rfl, K, hrow⟩ := hrel
      have HK := Lib.hid K
      have HRO := Lib.hid hrow
      clear K hrow
      by_cases hlt : j < N
      · have hjl : j < l.length := by have := HN.out; omega
        obtain ⟨b0, off, cap', hv, hcp, hb0, hrows⟩ := HQ1.out.pos (by have := HN.out; omega)
        rw [← HN.out] at hv
        injection hv with e1 e2 e3
        subst e1 e3
        have HX := Lib.hid (get_of hjl)
        have hck := Tr.chk_ok (HOK.out.each (List.getElem_mem hjl))
        have hbn : b0 ≠ A + 1 := by
          obtain ⟨_, _, _, hv2, -, hb2, -⟩ := HQ0.out.pos (by have := HN.out; omega)
          injection hv2 with q1
          injection q1 with q1
          injection q1 with q1
          have := HAS.out
          omega
        have hx8 := (hrows.kept hb0 HK.out hbn).ev HX.out
        generalize l[j] = x at HX hx8 hck
        obtain ⟨k, hk⟩ : ∃ k : Nat, x.kind = (k : Int) := ⟨x.kind.toNat, by omega⟩
        have hk9 : k < 9 := by omega
        have HTS : Hid (tally (l.take (j + 1)) = (tally (l.take j)).set k ((((l.take j).countP fun x => decide (x.kind = (k : Int)) : Nat) : Int) + 1)) := Lib.hid (by rw [Tr.take_snoc' HX.out, tally_snoc hk hk9])
        have hcnt : ((l.take j).countP fun x => decide (x.kind = (k : Int))) ≤ 1000000 := by
          have := List.countP_le_length (p := fun x : Ev => decide (x.kind = (k : Int))) (l := l.take j)
          rw [List.length_take] at this
          omega
        have t0 : wr.cell? ⟨A + 1, k, none⟩ = some (.int .i64 (((l.take j).countP fun x => decide (x.kind = (k : Int)) : Nat) : Int)) := HRO.out.get (by unfold iv9; rw [List.getElem?_map, tally_get _ hk9]; rfl)
        generalize ((l.take j).countP fun x => decide (x.kind = (k : Int))) = q at HTS hcnt t0
        have tf := HRO.out.fz k
        have tl := HRO.out.lt
        obtain ⟨a0, a1, a2, a3, a4, a5, a6, a7⟩ := hx8
        rw [hk] at a0
        have ka : (0 : Int) ≤ (k : Int) := by omega
        have kb : (k : Int) < 9 := by omega
        
        have hsm : IntKind.i64.wrap ((q : Int) + 1) = (q : Int) + 1 := IntWalk.i64_in _ (by omega)
        clear hck hrows e2
        go_wp2
        have HNX : Hid (Kept (fun b => b = A + 1) w1 ((wr.setCell ⟨A + 1, k, none⟩ (.int .i64 ((q : Int) + 1))).alloc (.cells #[.int .i64 (k : Int), .int .i64 x.t, .int .i64 x.job, .int .i64 x.due, .int .i64 x.att, .int .i64 x.run, .int .i64 x.why, .int .i64 x.whn] 35)) ∧ RowAt ((wr.setCell ⟨A + 1, k, none⟩ (.int .i64 ((q : Int) + 1))).alloc (.cells #[.int .i64 (k : Int), .int .i64 x.t, .int .i64 x.job, .int .i64 x.due, .int .i64 x.att, .int .i64 x.run, .int .i64 x.why, .int .i64 x.whn] 35)) (A + 1) (iv9 (tally (l.take (j + 1))))) := Lib.hid (by
          rw [HTS.out]
          have kk := HK.out.setCell ⟨A + 1, k, none⟩ (.int .i64 ((q : Int) + 1)) (fun _ => rfl)
          refine ⟨kk.alloc _, ?_⟩
          have := HRO.out.set (j := k) (by simp [iv9, tally_len]; omega) (.int .i64 ((q : Int) + 1))
          unfold iv9 at this ⊢
          rw [List.map_set]
          exact this.same ((Kept.refl (fun _ => False) _).alloc _))
        go_roundw
        case rel => exact ⟨j + 1, by omega, by go_num, HNX.out.1, HNX.out.2⟩
        case measure => simp; omega
      · obtain rfl : j = N := by omega
        have HRO2 : Hid (RowAt wr (A + 1) (iv9 (tally l))) := Lib.hid (by
          have := HRO.out
          rwa [List.take_of_length_le (by have := HN.out; omega)] at this)
        obtain ⟨g1, g2, g3, g4, g5, g6, g7⟩ := END.out wr (tally l) (tally_len l) HK.out HRO2.out
        have G1 := Lib.hid g1
        have G2 := Lib.hid g2
        have G3 := Lib.hid g3
        have G4 := Lib.hid g4
        have G5 := Lib.hid g5
        have G6 := Lib.hid g6
        have G7 := Lib.hid g7
        clear g1 g2 g3 g4 g5 g6 g7
        go_wp2_with (first | (refine wpList_load_mid rfl 49 (.tmp 4) rfl (A + 1) 0 rfl (iv9 (tally l)) _ G5.out Try.underlying49 rfl G4.out ?_) | (refine wpList_store_mid rfl 49 (.tmp 2) (.tmp 31) rfl A 0 (iv9 (tally l)).toArray rfl rfl G1.out G2.out G3.out ?_))
        exact bodyPost_ret (resultsT rfl rfl rfl G6.out (tally_len l)) rfl ⟨by rw [HT.out, HB.out], G7.out⟩

set_option maxRecDepth 100000 in
set_option maxHeartbeats 4000000 in
theorem rtally_c {w : World} {v : Value} {l : List Ev} (h : Evs w v l) (hw : EvW l) (hl : l.length ≤ 1000000) : Calls Try.prog 31 #[v] w (TallyPost l w) := by
  have r2 := RowAt.new w 49 #[.int .i64 0, .int .i64 0, .int .i64 0, .int .i64 0, .int .i64 0, .int .i64 0, .int .i64 0, .int .i64 0, .int .i64 0]
  have r4 := RowAt.new (w.alloc (.cells #[.int .i64 0, .int .i64 0, .int .i64 0, .int .i64 0, .int .i64 0, .int .i64 0, .int .i64 0, .int .i64 0, .int .i64 0] 49)) 49 #[.int .i64 0, .int .i64 0, .int .i64 0, .int .i64 0, .int .i64 0, .int .i64 0, .int .i64 0, .int .i64 0, .int .i64 0]
  have k0 : Kept (fun _ => False) w ((w.alloc (.cells #[.int .i64 0, .int .i64 0, .int .i64 0, .int .i64 0, .int .i64 0, .int .i64 0, .int .i64 0, .int .i64 0, .int .i64 0] 49)).alloc (.cells #[.int .i64 0, .int .i64 0, .int .i64 0, .int .i64 0, .int .i64 0, .int .i64 0, .int .i64 0, .int .i64 0, .int .i64 0] 49)) := ((Kept.refl _ _).alloc _).alloc _
  rw [World.size_alloc] at r4
  have R2 : Hid (RowAt ((w.alloc (.cells #[.int .i64 0, .int .i64 0, .int .i64 0, .int .i64 0, .int .i64 0, .int .i64 0, .int .i64 0, .int .i64 0, .int .i64 0] 49)).alloc (.cells #[.int .i64 0, .int .i64 0, .int .i64 0, .int .i64 0, .int .i64 0, .int .i64 0, .int .i64 0, .int .i64 0, .int .i64 0] 49)) w.heap.size (iv9 (List.replicate 9 0))) := Lib.hid (r2.same ((Kept.refl _ _).alloc _))
  have R4 : Hid (RowAt ((w.alloc (.cells #[.int .i64 0, .int .i64 0, .int .i64 0, .int .i64 0, .int .i64 0, .int .i64 0, .int .i64 0, .int .i64 0, .int .i64 0] 49)).alloc (.cells #[.int .i64 0, .int .i64 0, .int .i64 0, .int .i64 0, .int .i64 0, .int .i64 0, .int .i64 0, .int .i64 0, .int .i64 0] 49)) (w.heap.size + 1) (iv9 (List.replicate 9 0))) := Lib.hid r4
  have HC := Lib.hid (rcheck_c (h.same k0) hw hl 64)
  have hcf : Tr.check 64 l = Tr.chkFrom 64 [] l := by unfold Tr.check; rw [if_neg (by omega)]
  rw [hcf] at HC
  clear hcf
  obtain ⟨c, hc⟩ : ∃ c, Tr.bad 64 l = c := ⟨_, rfl⟩
  have HB := Lib.hid hc
  have HB2 : Hid ((Tr.chkFrom 64 [] l).2 = c) := Lib.hid hc
  obtain ⟨ci, hci⟩ : ∃ ci, (Tr.chkFrom 64 [] l).1 = ci := ⟨_, rfl⟩
  rw [HB2.out, hci] at HC
  have HQ := Lib.hid (h.same k0)
  have HQ0 := Lib.hid h
  have HK0 := Lib.hid k0
  obtain ⟨aa, cap, rfl⟩ := h.len
  obtain ⟨N, hN⟩ : ∃ N : Nat, N = l.length := ⟨_, rfl⟩
  rw [← hN] at hl HC HQ HQ0 ⊢
  have HN := Lib.hid hN
  clear h hw r2 r4 k0 hN hc hci
  go_enter Try.func31, Try.ntmps31
  go_wp2_with (go_at_call 22; fail)
  obtain ⟨A, hA⟩ : ∃ A, w.heap.size = A := ⟨_, rfl⟩
  have HAS := Lib.hid hA
  rw [hA] at R2 R4 ⊢
  clear hA
  refine HC.out.mono ?_
  rintro e w1 ⟨rfl, K1⟩
  have S2 := Lib.hid (R2.out.same K1)
  have S4 := Lib.hid (R4.out.same K1)
  have HK1 := Lib.hid (HK0.out.trans K1 (fun _ _ h => h))
  have HQ1 := Lib.hid (HQ.out.same K1)
  clear K1 R2 R4 HC HQ HK0
  -- how it ends
  have END : Hid (∀ (W : World) (xs : List Int), xs.length = 9 → Kept (fun b => b = A + 1) w1 W → RowAt W (A + 1) (iv9 xs) → W.there A 0 (iv9 xs).toArray.size ∧ (Try.prog.info? 49).map (·.size) = some (iv9 xs).toArray.size ∧ (iv9 xs).toArray.all (·.oneCell') = true ∧ (Try.prog.info? 49).map (·.size) = some (iv9 xs).length ∧ W.rangeAt (A + 1) 0 (iv9 xs) ∧
      (W.setCells A 0 (iv9 xs).toArray.toList).rangeAt A 0 (iv9 xs) ∧ Kept (fun _ => False) w (W.setCells A 0 (iv9 xs).toArray.toList)) := Lib.hid fun W xs hx K hr => by
    have s2 := S2.out.kept K (by omega)
    have hth : W.there A 0 (iv9 xs).toArray.size := by
      have := s2.there
      simpa [iv9, hx] using this
    refine ⟨hth, by rw [Try.size49]; simp [iv9, hx], all_oneCell_toArray (iv9_one xs), by rw [Try.size49]; simp [iv9, hx], hr.cell, ?_, ?_⟩
    · exact (s2.store (iv9 xs) (by simp [iv9, hx])).cell
    · have hs := HAS.out
      exact (HK1.out.trans K (fun i hi q => by omega)).trans ((Kept.refl (fun b => b = A) W).setCells A _ (fun _ => rfl) 0) (fun i hi q => by omega)
  by_cases hc0 : ¬ c = 0
  · have hb1 : (c != 0) = true := by simpa using hc0
    have hb2 : (c == 0) = false := by simpa using hc0
    have HT : Hid (tallyC l = List.replicate 9 0) := Lib.hid (by unfold tallyC; rw [if_neg (by rw [HB.out]; exact hc0)])
    obtain ⟨g1, g2, g3, g4, g5, g6, g7⟩ := END.out w1 (List.replicate 9 0) (by simp) (Kept.refl _ _) S4.out
    have G1 := Lib.hid g1
    have G2 := Lib.hid g2
    have G3 := Lib.hid g3
    have G4 := Lib.hid g4
    have G5 := Lib.hid g5
    have G6 := Lib.hid g6
    have G7 := Lib.hid g7
    clear g1 g2 g3 g4 g5 g6 g7 hc0
    go_wp2_with (first | (refine wpList_load_mid rfl 49 (.tmp 4) rfl (A + 1) 0 rfl (iv9 (List.replicate 9 0)) _ G5.out Try.underlying49 rfl G4.out ?_) | (refine wpList_store_mid rfl 49 (.tmp 2) (.tmp 15) rfl A 0 (iv9 (List.replicate 9 0)).toArray rfl rfl G1.out G2.out G3.out ?_))
    exact bodyPost_ret (resultsT rfl rfl rfl G6.out (by simp)) rfl ⟨by rw [HT.out, HB.out], G7.out⟩
  · obtain rfl := Decidable.not_not.1 hc0
    clear hc0
    have HOK := Lib.hid (Tr.bad_ok HB.out)
    have HT : Hid (tallyC l = tally l) := Lib.hid (by unfold tallyC; rw [if_pos HB.out])
    have HS0 : Hid (RowAt w1 (A + 1) (iv9 (tally (l.take 0)))) := Lib.hid (by rw [List.take_zero, tally_nil]; exact S4.out)
    go_wp2
    go_loopw [7] (fun q wr => ∃ j : Nat, j ≤ N ∧ q = .int .i64 j ∧ Kept (fun b => b = A + 1) w1 wr ∧ RowAt wr (A + 1) (iv9 (tally (l.take j)))) (fun q _ => match q with | .int _ x => (N - x).toNat | _ => 0)
    case atStart => exact ⟨0, Nat.zero_le _, rfl, Kept.refl _ _, HS0.out⟩
    case round =>
      obtain ⟨j, hj, rfl, K, hrow⟩ := hrel
      have HK := Lib.hid K
      have HRO := Lib.hid hrow
      clear K hrow
      by_cases hlt : j < N
      · have hjl : j < l.length := by have := HN.out; omega
        obtain ⟨b0, off, cap', hv, hcp, hb0, hrows⟩ := HQ1.out.pos (by have := HN.out; omega)
        rw [← HN.out] at hv
        injection hv with e1 e2 e3
        subst e1 e3
        have HX := Lib.hid (get_of hjl)
        have hck := Tr.chk_ok (HOK.out.each (List.getElem_mem hjl))
        have hbn : b0 ≠ A + 1 := by
          obtain ⟨_, _, _, hv2, -, hb2, -⟩ := HQ0.out.pos (by have := HN.out; omega)
          injection hv2 with q1
          injection q1 with q1
          injection q1 with q1
          have := HAS.out
          omega
        have hx8 := (hrows.kept hb0 HK.out hbn).ev HX.out
        generalize l[j] = x at HX hx8 hck
        obtain ⟨k, hk⟩ : ∃ k : Nat, x.kind = (k : Int) := ⟨x.kind.toNat, by omega⟩
        have hk9 : k < 9 := by omega
        have HTS : Hid (tally (l.take (j + 1)) = (tally (l.take j)).set k ((((l.take j).countP fun x => decide (x.kind = (k : Int)) : Nat) : Int) + 1)) := Lib.hid (by rw [Tr.take_snoc' HX.out, tally_snoc hk hk9])
        have hcnt : ((l.take j).countP fun x => decide (x.kind = (k : Int))) ≤ 1000000 := by
          have := List.countP_le_length (p := fun x : Ev => decide (x.kind = (k : Int))) (l := l.take j)
          rw [List.length_take] at this
          omega
        have t0 : wr.cell? ⟨A + 1, k, none⟩ = some (.int .i64 (((l.take j).countP fun x => decide (x.kind = (k : Int)) : Nat) : Int)) := HRO.out.get (by unfold iv9; rw [List.getElem?_map, tally_get _ hk9]; rfl)
        generalize ((l.take j).countP fun x => decide (x.kind = (k : Int))) = q at HTS hcnt t0
        have tf := HRO.out.fz k
        have tl := HRO.out.lt
        obtain ⟨a0, a1, a2, a3, a4, a5, a6, a7⟩ := hx8
        rw [hk] at a0
        have ka : (0 : Int) ≤ (k : Int) := by omega
        have kb : (k : Int) < 9 := by omega
        
        have hsm : IntKind.i64.wrap ((q : Int) + 1) = (q : Int) + 1 := IntWalk.i64_in _ (by omega)
        clear hck hrows e2
        go_wp2
        have HNX : Hid (Kept (fun b => b = A + 1) w1 (wr.setCell ⟨A + 1, k, none⟩ (.int .i64 ((q : Int) + 1))) ∧ RowAt (wr.setCell ⟨A + 1, k, none⟩ (.int .i64 ((q : Int) + 1))) (A + 1) (iv9 (tally (l.take (j + 1))))) := Lib.hid (by
          rw [HTS.out]
          refine ⟨HK.out.setCell _ _ (fun _ => rfl), ?_⟩
          have := HRO.out.set (j := k) (by simp [iv9, tally_len]; omega) (.int .i64 ((q : Int) + 1))
          unfold iv9 at this ⊢
          rwa [List.map_set])
        go_roundw
        case rel => exact ⟨j + 1, by omega, by go_num, HNX.out.1, HNX.out.2⟩
        case measure => simp; omega
      · obtain rfl : j = N := by omega
        have HRO2 : Hid (RowAt wr (A + 1) (iv9 (tally l))) := Lib.hid (by
          have := HRO.out
          rwa [List.take_of_length_le (by have := HN.out; omega)] at this)
        obtain ⟨g1, g2, g3, g4, g5, g6, g7⟩ := END.out wr (tally l) (tally_len l) HK.out HRO2.out
        have G1 := Lib.hid g1
        have G2 := Lib.hid g2
        have G3 := Lib.hid g3
        have G4 := Lib.hid g4
        have G5 := Lib.hid g5
        have G6 := Lib.hid g6
        have G7 := Lib.hid g7
        clear g1 g2 g3 g4 g5 g6 g7
        go_wp2_with (first | (refine wpList_load_mid rfl 49 (.tmp 4) rfl (A + 1) 0 rfl (iv9 (tally l)) _ G5.out Try.underlying49 rfl G4.out ?_) | (refine wpList_store_mid rfl 49 (.tmp 2) (.tmp 32) rfl A 0 (iv9 (tally l)).toArray rfl rfl G1.out G2.out G3.out ?_))
        exact bodyPost_ret (resultsT rfl rfl rfl G6.out (tally_len l)) rfl ⟨by rw [HT.out, HB.out], G7.out⟩
end Go.Proofs.Ytfhlllmicobafaa
