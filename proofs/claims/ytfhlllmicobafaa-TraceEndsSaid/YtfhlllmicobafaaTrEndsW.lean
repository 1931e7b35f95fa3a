/- TrEndsW: texts for the statements of this seat: contracts of functions, walks, plain laws. Conditions: none. -/
import Derived.Test.YtfhlllmicobafaaTrCtx
import Derived.Test.YtfhlllmicobafaaTrFirsts
set_option linter.all false
/- The walk of TraceEnds. -/
namespace Go.Proofs.Ytfhlllmicobafaa
open Go.RowKit
open Tr (Ev ofB)
theorem lawend_is (b : Bool) (e : Ev) (k due : Int) (B6 Bd : Nat) (w : World) (h6 : RowAt w B6 [.int .i64 k]) (hd : RowAt w Bd [.int .i64 due]) (h : lawEnd k due e = b) :
    Calls Try.prog 44 #[evV e, .pointer (some ⟨B6, 0, none⟩), .pointer (some ⟨Bd, 0, none⟩)] w fun r w' => r = .returned (.bool b) ∧ Kept (fun _ => False) w w' := by
  have HK : Hid (∀ o, Kept (fun _ => False) w (w.alloc o)) := Lib.hid fun o => (Kept.refl _ _).alloc _
  have c6 := h6.get (j := 0) rfl
  have cl6 := h6.lt
  have c := hd.get (j := 0) rfl
  have cl := hd.lt
  have HB := Lib.hid h
  clear h hd h6
  by_cases h0 : e.job = k
  · have t0 : (e.job == k) = true := by simpa using h0
    by_cases h2 : e.due = due
    · have t2 : (e.due == due) = true := by simpa using h2
      by_cases h1 : e.kind = 2
      · have t1 : (e.kind == 2) = true := by simpa using h1
        have HE : Hid (b = true) := Lib.hid (by rw [← HB.out]; simp [lawEnd, h0, h1, h2])
        clear h0 h1 h2
        go_enter Try.func44, Try.ntmps44
        go_wp2
        go_ret
        exact ⟨by rw [HE.out]; rfl, HK.out _⟩
      · have t1 : (e.kind == 2) = false := by simpa using h1
        by_cases h3 : e.kind = 5
        · have t3 : (e.kind == 5) = true := by simpa using h3
          have HE : Hid (b = true) := Lib.hid (by rw [← HB.out]; simp [lawEnd, h0, h3, h2])
          clear h0 h1 h2 h3
          go_enter Try.func44, Try.ntmps44
          go_wp2
          go_ret
          exact ⟨by rw [HE.out]; rfl, HK.out _⟩
        · have t3 : (e.kind == 5) = false := by simpa using h3
          have HE : Hid (b = false) := Lib.hid (by rw [← HB.out]; simp [lawEnd, h1, h3])
          clear h0 h1 h2 h3
          go_enter Try.func44, Try.ntmps44
          go_wp2
          go_ret
          exact ⟨by rw [HE.out]; rfl, HK.out _⟩
    · have t2 : (e.due == due) = false := by simpa using h2
      have HE : Hid (b = false) := Lib.hid (by rw [← HB.out]; simp [lawEnd, h2])
      clear h0 h2
      go_enter Try.func44, Try.ntmps44
      go_wp2
      go_ret
      exact ⟨by rw [HE.out]; rfl, HK.out _⟩
  · have t0 : (e.job == k) = false := by simpa using h0
    have HE : Hid (b = false) := Lib.hid (by rw [← HB.out]; simp [lawEnd, h0])
    clear h0
    go_enter Try.func44, Try.ntmps44
    go_wp2
    go_ret
    exact ⟨by rw [HE.out]; rfl, HK.out _⟩
theorem firsts_made {W : World} {v : Value} {t : List Ev} (h : Evs W v t) (hok : Tr.Ok 64 t) (hw : EvW t) (hl : t.length ≤ 200) {k : Int} (hk : 0 ≤ k ∧ k ≤ 63) :
    Calls Try.prog 35 #[v, .int .i64 k] W fun e w' => ∃ u, e = .returned (.tuple #[u, .int .i64 0]) ∧ IRO W w' u (Tr.firstsR k t) :=
  (callsIn_wide.1 (firsts_in 4 (Nat.le_refl _) h hw (by omega) k)).mono fun e w' q => by
    obtain ⟨u, q1, q2⟩ := q
    rw [wrong_zero hok hk] at q1 q2
    rw [if_pos rfl] at q2
    exact ⟨u, q1, q2⟩
theorem firsts_range {W : World} {v : Value} {t : List Ev} (h : Evs W v t) (hok : Tr.Ok 64 t) (hw : EvW t) (hl : t.length ≤ 200) {k : Int} (hk : k < 0 ∨ 63 < k) :
    Calls Try.prog 35 #[v, .int .i64 k] W fun e w' => ∃ u, e = .returned (.tuple #[u, .int .i64 3]) ∧ Kept (fun _ => False) W w' :=
  (callsIn_wide.1 (firsts_in 4 (Nat.le_refl _) h hw (by omega) k)).mono fun e w' q => by
    obtain ⟨u, q1, q2⟩ := q
    rw [wrong_range hok hk] at q1
    exact ⟨u, q1, q2.2.2⟩
theorem ends_made {W : World} {v : Value} {t : List Ev} (h : Evs W v t) (hw : EvW t) (hl : t.length ≤ 200) {k due c : Int} (hc : endsC t k due = c) :
    Calls Try.prog 37 #[v, .int .i64 k, .int .i64 due] W fun e w' => e = .returned (.tuple #[.int .i64 (endsR t k due).1, .bool (endsR t k due).2, .int .i64 c]) ∧ Kept (fun _ => False) W w' :=
  (callsIn_wide.1 (ends_in 4 (Nat.le_refl _) h hw (by omega) k due)).mono fun e w' q => by
    obtain ⟨q1, q2⟩ := q
    rw [hc] at q1
    exact ⟨q1, q2⟩
theorem endsC_range {t : List Ev} (hok : Tr.Ok 64 t) {k due : Int} (hk : k < 0 ∨ 63 < k) : endsC t k due = 3 := by
  have := wrong_range hok (n := k) (lo := 0) (hi := 63) hk
  unfold endsC
  rw [if_pos (by omega), this]
theorem endsC_due {t : List Ev} (hok : Tr.Ok 64 t) {k due : Int} (hk : 0 ≤ k ∧ k ≤ 63) (hd : due < 0) : endsC t k due = 14 := by
  have := wrong_zero hok (n := k) (lo := 0) (hi := 63) hk
  unfold endsC
  rw [if_neg (by omega), if_pos (.inl hd)]
theorem firstsR_bd {t : List Ev} (hs : ∀ e ∈ t, Tr.Small e) (k : Int) : ∀ d ∈ Tr.firstsR k t, 0 ≤ d ∧ d ≤ 1600 := fun d hd => by
  have := (Tr.insAll (Tr.dues k t) [] List.Pairwise.nil).2 d
  have h2 := this.1 hd
  simp at h2
  exact dues_bd hs k d h2
theorem firstsR_le (k : Int) (t : List Ev) : (Tr.firstsR k t).length ≤ t.length := by
  have h1 : (Lib.compact (srt (Tr.dues k t))) = Tr.firstsR k t := compact_firsts (srt_perm _) (srt_sorted _)
  rw [← h1]
  have h2 := compact_len (srt (Tr.dues k t))
  have h3 := dues_len k t
  rw [srt_length] at h2
  omega
/-- The first m of an own row. -/
theorem iro_first {w wk : World} {v : Value} {xs : List Int} {n m : Nat} (h : IRO w wk v xs) (hn : xs.length = n) (hm : m ≤ n) : ∃ p c, v = .slice p n c ∧ m ≤ c ∧ wk.ownsRow w.heap.size 2 1 (.slice p m c) m (cellsL (fun x : Int => [Value.int .i64 x]) (xs.take m)) ∧ (p = none → m = 0 ∧ c = 0) := by
  subst hn
  rcases h.1.2 with ⟨q, h0⟩ | ⟨g, cap, cur, q, h1, h2, h3, h4⟩
  · obtain rfl : xs = [] := List.eq_nil_of_length_eq_zero h0
    obtain rfl : m = 0 := by simpa using hm
    exact ⟨none, 0, q, Nat.le_refl _, ⟨by simp [cellsL], .inl ⟨rfl, rfl⟩⟩, fun _ => ⟨rfl, rfl⟩⟩
  · refine ⟨_, cap, q, by omega, ?_, fun q => by cases q⟩
    have := h.1
    rw [q] at this
    have h5 := ownsRow_first this hm
    rw [cells_ints] at h5 ⊢
    rw [List.map_take]
    exact h5
set_option maxRecDepth 100000 in
set_option maxHeartbeats 8000000 in
theorem ends_w {w : World} {v : Value} {l : List Int} (h : IntsK .u32 w v l) (hs : ∃ p c, v = .slice p l.length c ∧ l.length ≤ c) (hl : l.length ≤ maxLen) (hu : Tr.U32 l) (other : Int) (ho0 : 0 ≤ other) (ho1 : other ≤ 65535) :
    Calls Try.prog 12 #[v, .int .u16 other] w (Tru w) := by
  have HM := Lib.hid (made_o h hs hl hu)
  obtain ⟨hok, hlen, hsm⟩ := Tr.made_ok hu
  generalize Tr.made l = t at HM hok hlen hsm
  have HOK := Lib.hid (hok.wide (b := 64) (by omega))
  have HSM := Lib.hid hsm
  have HW : Hid (EvW t) := Lib.hid (small_w hsm)
  obtain ⟨N, hN⟩ : ∃ N : Nat, t.length = N := ⟨_, rfl⟩
  have HN := Lib.hid hN
  rw [hN] at hlen
  clear h hs hl hu hok hsm hN
  go_enter Try.func12, Try.ntmps12
  go_wp2_with (go_at_call 29; fail)
  refine HM.out.mono ?_
  rintro e w1 ⟨vt, rfl, ht⟩
  have HT1 := Lib.hid (ht.rows evC_len)
  have HK1 := Lib.hid ht.2.2
  clear ht HM l
  obtain ⟨at_, ct, hvt⟩ := HT1.out.len
  rw [HN.out] at hvt
  subst hvt
  go_wp2
  go_loopw [28] (fun k wr => ∃ j : Nat, j ≤ 5 ∧ k = .int .i64 j ∧ Kept (fun _ => False) w1 wr) (fun k _ => match k with | .int _ x => (5 - x).toNat | _ => 0)
  case atStart => exact ⟨0, by omega, rfl, Kept.refl _ _⟩
  case round =>
    obtain ⟨j, hj, rfl, K⟩ := hrel
    have HK := Lib.hid K
    have HTR := Lib.hid (HT1.out.same K)
    clear K
    by_cases hlt : j < 5
    · have r6 := RowAt.new wr 3 #[.int .i64 (j : Nat)]
      have k6 : Kept (fun _ => False) wr (wr.alloc (.cells #[.int .i64 (j : Nat)] 3)) := (Kept.refl _ _).alloc _
      have HR6 := Lib.hid r6
      have HT6 := Lib.hid (HTR.out.same k6)
      have HK6 := Lib.hid (HK.out.trans k6 (fun _ _ h => h))
      have HC := Lib.hid (firsts_made HT6.out HOK.out HW.out (by rw [HN.out]; omega) (k := (j : Int)) (by omega))
      clear r6 k6 HTR HK
      go_wp2_with (go_at_call 35; fail)
      refine HC.out.mono ?_
      rintro e w3 ⟨vf, rfl, hf⟩
      have HF3 := Lib.hid hf.ints
      have HR3 := Lib.hid (HR6.out.same hf.2.2)
      have HT3 := Lib.hid (HT6.out.same hf.2.2)
      have HK3 := Lib.hid (HK6.out.trans hf.2.2 (fun _ _ h => h))
      clear hf HR6 HT6 HK6 HC
      generalize wr.heap.size = B6 at HR3 ⊢
      have HS0 := Lib.hid (RO.start (fun x : Int => [Value.int .i64 x]) 1 2 w3)
      go_wp2
      go_loopw [9, 41] (fun s i wr => ∃ (q : Nat) (out : List Int), q ≤ N ∧ i = .int .i64 q ∧ out = Tr.dues (j : Int) (t.take q) ∧ out.length ≤ q ∧ IRO w3 wr s out) (fun _ i _ => match i with | .int _ x => (N - x).toNat | _ => 0)
      case atStart => exact ⟨0, [], Nat.zero_le _, rfl, rfl, Nat.zero_le _, HS0.out⟩
      case round =>
        obtain ⟨q, out, hq, rfl, hout, hol, hrs⟩ := hrel
        have HOUT := Lib.hid hout
        have HS := Lib.hid hrs
        obtain ⟨ps, cs, rfl⟩ := hrs.val
        clear hout hrs
        obtain ⟨m, hm⟩ : ∃ m, out.length = m := ⟨_, rfl⟩
        have HM := Lib.hid hm
        have hs2 := HS.out
        rw [hm] at hol hs2 ⊢
        have HS := Lib.hid hs2
        clear hm hs2
        by_cases hlq : q < N
        · have hql : q < t.length := by have := HN.out; omega
          have HX := Lib.hid (get_of hql)
          obtain ⟨b0, off, cap', hv, hcp, hb0, hrows⟩ := (HT3.out.same HS.out.2.2).pos (by have := HN.out; omega)
          rw [HN.out] at hv
          injection hv with e1 e2 e3
          subst e1 e3
          have hx8 := hrows.ev HX.out
          generalize t[q] = x at HX hx8
          obtain ⟨a0, a1, a2, a3, a4, a5, a6, a7⟩ := hx8
          have c6 := (HR3.out.same HS.out.2.2).get (j := 0) rfl
          have cl6 := (HR3.out.same HS.out.2.2).lt
          have i1 : (0 : Int) ≤ (q : Int) := by omega
          have i2 : (q : Int) < (N : Int) := by omega
          have HSB : Hid (∀ o, IRO w3 (wr.alloc (.cells o 35)) (.slice ps m cs) out) := Lib.hid fun o => HS.out.move ((Kept.refl _ _).alloc _)
          clear hrows e2
          by_cases k2 : x.job = (j : Int)
          · have t2 : (x.job == (j : Int)) = true := by simpa using k2
            by_cases k1 : x.kind = 1
            · have t1 : (x.kind == 1) = true := by simpa using k1
              have HD : Hid (out ++ [x.due] = Tr.dues (j : Int) (t.take (q + 1))) := Lib.hid (by rw [HOUT.out, dues_take _ HX.out, if_pos (by simp [Tr.firstB, k1, k2])])
              clear k1 k2
              have HSO : Hid (∀ o, (wr.alloc (.cells o 35)).ownsRow w3.heap.size 2 1 (.slice ps m cs) m (cellsL (fun x : Int => [Value.int .i64 x]) out) ∧ w3.heap.size ≤ (wr.alloc (.cells o 35)).heap.size) := Lib.hid fun o => by
                have := (HSB.out o).1
                rw [HM.out] at this
                exact ⟨this, (HSB.out o).2.1⟩
              go_wp2_with (at_builtin; go_loud (refine wpList_app1 el38 rfl (.tmp 59) (.tmp 62) rfl w3.heap.size (.slice ps m cs) m (cellsL (fun x : Int => [Value.int .i64 x]) out) rfl (HSO.out _).1 (news := [.int .i64 x.due]) (by simp [Act.eval, World.size_alloc]) rfl (by simp [Value.oneCell']) (by unfold maxLen; omega) (by omega) (HSO.out _).2 ?_))
              intro gg cc w5 hown5 K5
              have HKP := Lib.hid ((HSB.out _).snoc (x := x.due) HM.out hown5 K5)
              clear hown5 K5
              go_wp2
              go_roundw
              case rel => exact ⟨q + 1, out ++ [x.due], by omega, by go_num, HD.out, by rw [List.length_append, List.length_singleton, HM.out]; omega, HKP.out⟩
              case measure => simp; omega
            · have t1 : (x.kind == 1) = false := by simpa using k1
              by_cases k5 : x.kind = 5
              · have t5 : (x.kind == 5) = true := by simpa using k5
                have HD : Hid (out ++ [x.due] = Tr.dues (j : Int) (t.take (q + 1))) := Lib.hid (by rw [HOUT.out, dues_take _ HX.out, if_pos (by simp [Tr.firstB, k5, k2])])
                clear k1 k2 k5
                have HSO : Hid (∀ o, (wr.alloc (.cells o 35)).ownsRow w3.heap.size 2 1 (.slice ps m cs) m (cellsL (fun x : Int => [Value.int .i64 x]) out) ∧ w3.heap.size ≤ (wr.alloc (.cells o 35)).heap.size) := Lib.hid fun o => by
                  have := (HSB.out o).1
                  rw [HM.out] at this
                  exact ⟨this, (HSB.out o).2.1⟩
                go_wp2_with (at_builtin; go_loud (refine wpList_app1 el38 rfl (.tmp 59) (.tmp 62) rfl w3.heap.size (.slice ps m cs) m (cellsL (fun x : Int => [Value.int .i64 x]) out) rfl (HSO.out _).1 (news := [.int .i64 x.due]) (by simp [Act.eval, World.size_alloc]) rfl (by simp [Value.oneCell']) (by unfold maxLen; omega) (by omega) (HSO.out _).2 ?_))
                intro gg cc w5 hown5 K5
                have HKP := Lib.hid ((HSB.out _).snoc (x := x.due) HM.out hown5 K5)
                clear hown5 K5
                go_wp2
                go_roundw
                case rel => exact ⟨q + 1, out ++ [x.due], by omega, by go_num, HD.out, by rw [List.length_append, List.length_singleton, HM.out]; omega, HKP.out⟩
                case measure => simp; omega
              · have t5 : (x.kind == 5) = false := by simpa using k5
                have HD : Hid (out = Tr.dues (j : Int) (t.take (q + 1))) := Lib.hid (by rw [HOUT.out, dues_take _ HX.out, if_neg (by simp [Tr.firstB, k1, k5])])
                clear k1 k2 k5
                go_wp2
                go_roundw
                case rel => exact ⟨q + 1, out, by omega, by go_num, HD.out, by rw [HM.out]; omega, HSB.out _⟩
                case measure => simp; omega
          · have t2 : (x.job == (j : Int)) = false := by simpa using k2
            have HD : Hid (out = Tr.dues (j : Int) (t.take (q + 1))) := Lib.hid (by rw [HOUT.out, dues_take _ HX.out, if_neg (by simp [Tr.firstB, k2])])
            clear k2
            go_wp2
            go_roundw
            case rel => exact ⟨q + 1, out, by omega, by go_num, HD.out, by rw [HM.out]; omega, HSB.out _⟩
            case measure => simp; omega
        · obtain rfl : q = N := by omega
          have HDS : Hid (out = Tr.dues (j : Int) t) := Lib.hid (by rw [HOUT.out, List.take_of_length_le (by have := HN.out; omega)])
          have ho1 : wr.ownsRow w3.heap.size 2 1 (.slice ps m cs) out.length (out.map (Value.int .i64)) := by
            have := HS.out.1
            rw [cells_ints] at this
            exact this
          have HSC := Lib.hid (sort41_c out (by rw [HM.out]; omega) ho1)
          clear ho1
          go_wp2_with (go_at_call 41; fail)
          refine HSC.out.mono ?_
          rintro e w4 ⟨rfl, hs4, K4⟩
          have HI4 : Hid (IRO w3 w4 (.slice ps m cs) (srt out)) := Lib.hid (HS.out.step (by rw [cells_ints, srt_length]; exact hs4) K4)
          have hs5 : w4.ownsRow w3.heap.size 2 1 (.slice ps m cs) (srt out).length ((srt out).map (Value.int .i64)) := by rw [srt_length]; exact hs4
          have HCC := Lib.hid (compact42_c (srt out) (by rw [srt_length, HM.out]; omega) hs5)
          have HFE : Hid (Lib.compact (srt out) = Tr.firstsR (j : Int) t) := Lib.hid (compact_firsts (by rw [← HDS.out]; exact srt_perm _) (srt_sorted _))
          clear hs4 hs5 K4 HSC
          go_wp2_with (go_at_call 42; fail)
          refine HCC.out.mono ?_
          rintro e w5 ⟨v5, rfl, ho5, K5⟩
          rw [HFE.out] at ho5
          have HI5 : Hid (IRO w3 w5 v5 (Tr.firstsR (j : Int) t)) := Lib.hid (HI4.out.step (by rw [cells_ints]; exact ho5) K5)
          obtain ⟨nf, hnf⟩ : ∃ nf, (Tr.firstsR (j : Int) t).length = nf := ⟨_, rfl⟩
          have HNF := Lib.hid hnf
          have hnfl : nf ≤ 200 := by rw [← hnf]; have := firstsR_le (j : Int) t; have := HN.out; omega
          have HEQ := Lib.hid (equal28_c (HF3.out.same HI5.out.2.2) HI5.out.ints (by rw [HNF.out]; omega) (by rw [HNF.out]; omega))
          rw [decide_eq_true rfl] at HEQ
          clear ho5 K5 HCC HI4 HS hnf
          go_wp2_with (go_at_call 28; fail)
          refine HEQ.out.mono ?_
          rintro e w6 ⟨rfl, q6, rfl⟩
          have HI6 := Lib.hid (HI5.out.move ((Kept.refl (fun _ => False) w5).drewN q6))
          clear HEQ HI5
          generalize w5.drewN q6 = w6 at HI6 ⊢
          obtain ⟨mm, hmm⟩ : ∃ mm : Nat, min (nf : Int) 20 = (mm : Int) := ⟨min nf 20, by omega⟩
          have hmf : mm ≤ nf := by omega
          have hmm20 : mm ≤ 20 := by omega
          obtain ⟨pw, cw, hv6, hmc, how6, -⟩ := iro_first HI6.out HNF.out hmf
          subst hv6
          have HOW6 := Lib.hid how6
          have HBS := Lib.hid HI6.out.2.1
          have i1 : (0 : Int) ≤ (mm : Int) := by omega
          have i2 : (mm : Int) ≤ (cw : Int) := by omega
          clear how6
          go_wp2_with (at_builtin; go_loud (refine wpList_app1 el38 rfl (.tmp 77) (.tmp 80) rfl w3.heap.size (.slice pw mm cw) mm (cellsL (fun x : Int => [Value.int .i64 x]) ((Tr.firstsR (j : Int) t).take mm)) rfl HOW6.out (news := [.int .i64 other]) (by simp [Act.eval, World.size_alloc]) rfl (by simp [Value.oneCell']) (by unfold maxLen; omega) (by omega) HBS.out ?_))
          intro gg cc w7 hown7 K7
          obtain ⟨D, hD⟩ : ∃ D, D = (Tr.firstsR (j : Int) t).take mm ++ [other] := ⟨_, rfl⟩
          have HDL : Hid (D.length = mm + 1) := Lib.hid (by rw [hD, List.length_append, List.length_take, HNF.out, List.length_singleton]; omega)
          have HDB : Hid (∀ d ∈ D, 0 ≤ d ∧ d ≤ 65535) := Lib.hid fun d hd => by
            rw [hD] at hd
            rcases List.mem_append.1 hd with hd | hd
            · have := firstsR_bd HSM.out _ d (List.mem_of_mem_take hd); omega
            · simp at hd; subst hd; exact ⟨ho0, ho1⟩
          have HI7 : Hid (IRO w3 w7 (.slice (some ⟨gg, 0, none⟩) (mm + 1) cc) D) := Lib.hid ⟨by
            rw [HDL.out, hD, cellsL_append, cellsL_one]
            exact hown7, Nat.le_trans HBS.out K7.size, HI6.out.2.2.trans K7 (fun i hi hv => by have := (ownsRow_block HOW6.out hv).1; omega)⟩
          have HT7 := Lib.hid (HT3.out.same HI7.out.2.2)
          have HR7 := Lib.hid (HR3.out.same HI7.out.2.2)
          have HK7 := Lib.hid (HK3.out.trans HI7.out.2.2 (fun _ _ h => h))
          clear hown7 K7 hD HI6 HOW6 HBS HT3 HR3 HK3 hmm
          go_wp2
          go_loopw [83] (fun i wr => ∃ r : Nat, r ≤ mm + 1 ∧ i = .int .i64 r ∧ Kept (fun _ => False) w7 wr) (fun i _ => match i with | .int _ x => (mm + 1 - x).toNat | _ => 0)
          case atStart => exact ⟨0, Nat.zero_le _, rfl, Kept.refl _ _⟩
          case round =>
            obtain ⟨r, hr, rfl, K⟩ := hrel
            have HKr := Lib.hid K
            clear K
            by_cases hlr : r < mm + 1
            · obtain ⟨d, hd⟩ : ∃ d, D[r]? = some d := ⟨_, List.getElem?_eq_getElem (by rw [HDL.out]; exact hlr)⟩
              have hdb := HDB.out d (List.mem_of_getElem? hd)
              have dc : wr.cell? ⟨gg, r, none⟩ = some (.int .i64 d) := by
                obtain ⟨b, o2, c2, q1, -, q3⟩ := (HI7.out.ints.same HKr.out).pos (by rw [HDL.out]; omega)
                injection q1 with q1 _ _
                injection q1 with q1
                injection q1 with q1 q4
                subst q1 q4
                have := q3 r d hd
                rwa [Nat.zero_add] at this
              have k13 : Kept (fun _ => False) wr (wr.alloc (.cells #[.int .i64 d] 2)) := (Kept.refl _ _).alloc _
              have HRB := Lib.hid (RowAt.new wr 2 #[.int .i64 d])
              have HRA := Lib.hid ((HR7.out.same HKr.out).same k13)
              have HTA := Lib.hid ((HT7.out.same HKr.out).same k13)
              have HKA := Lib.hid (HKr.out.trans k13 (fun _ _ h => h))
              have HIX := Lib.hid (index43_c (lawEnd (j : Int) d) 44 #[.pointer (some ⟨B6, 0, none⟩), .pointer (some ⟨wr.heap.size, 0, none⟩)] (enters_of Try.func44 (by kernel_rfl) rfl) HTA.out (by rw [HN.out]; omega) (fun W e b K hb => lawend_is b e (j : Int) d B6 _ W (HRA.out.same K) (HRB.out.same K) hb))
              have i3 : (0 : Int) ≤ (r : Int) := by omega
              have i4 : (r : Int) < (mm : Int) + 1 := by omega
              clear k13 hd
              go_wp2_with (go_at_call 43; fail)
              refine HIX.out.mono ?_
              rintro e w8 ⟨rfl, K8⟩
              have r6 := HRA.out.same K8
              have r13 := HRB.out.same K8
              have HT8 := Lib.hid (HTA.out.same K8)
              have HK8 := Lib.hid (HKA.out.trans K8 (fun _ _ h => h))
              have c6 := r6.get (j := 0) rfl
              have cl6 := r6.lt
              have c13 := r13.get (j := 0) rfl
              have cl13 := r13.lt
              clear r6 r13 K8 HRA HRB HTA HKA HIX dc
              generalize wr.heap.size = B13 at c13 cl13 ⊢
              have hce : endsC t (j : Int) d = 0 := endsC_ok HOK.out (by omega) (by omega)
              have HE := Lib.hid (ends_made HT8.out HW.out (by rw [HN.out]; omega) hce)
              have hei := ends_idx (l := t) (k := (j : Int)) (due := d) (by omega) hce
              clear hce
              rcases hei with ⟨x1, x2⟩ | ⟨p, x1, x2, x3⟩
              · rw [x2] at HE
                rw [x1]
                clear x1 x2
                go_wp2_with (go_at_call 37; fail)
                refine HE.out.mono ?_
                rintro e w9 ⟨rfl, K9⟩
                have HK9 := Lib.hid (HK8.out.trans K9 (fun _ _ h => h))
                clear K9 HE c6 cl6 c13 cl13 HK8 HT8
                go_wp2
                go_roundw
                case rel => exact ⟨r + 1, by omega, by go_num, HK9.out⟩
                case measure => first | (simp; done) | (simp; omega)
              · rw [x2] at HE
                rw [x1]
                have hp0 : decide ((0 : Int) ≤ (p : Int)) = true := decide_eq_true (by omega)
                clear x1 x2
                go_wp2_with (go_at_call 37; fail)
                refine HE.out.mono ?_
                rintro e w9 ⟨rfl, K9⟩
                have HK9 := Lib.hid (HK8.out.trans K9 (fun _ _ h => h))
                clear K9 HE c6 cl6 c13 cl13 HK8 HT8
                go_wp2
                go_roundw
                case rel => exact ⟨r + 1, by omega, by go_num, HK9.out⟩
                case measure => first | (simp; done) | (simp; omega)
            · obtain rfl : r = mm + 1 := by omega
              have HKE := Lib.hid (HK7.out.trans HKr.out (fun _ _ h => h))
              clear HKr HK7
              go_wp2
              go_roundw
              case rel => exact ⟨j + 1, by omega, by go_num, HKE.out⟩
              case measure => first | (simp; done) | (simp; omega)
    · obtain rfl : j = 5 := by omega
      have HK4R := Lib.hid (HK1.out.trans HK.out (fun _ _ h => h))
      clear HK
      go_wp2_with (go_at_call 35; fail)
      refine (firsts_range HTR.out HOK.out HW.out (by rw [HN.out]; omega) (by omega)).mono ?_
      rintro e w6 ⟨vz, rfl, K6⟩
      have HK6 := Lib.hid (HK4R.out.trans K6 (fun _ _ h => h))
      have HT6 := Lib.hid (HTR.out.same K6)
      clear K6 HK4R HTR
      go_wp2_with (go_at_call 37; fail)
      refine (ends_made HT6.out HW.out (by rw [HN.out]; omega) (endsC_range HOK.out (by omega))).mono ?_
      rintro e w7 ⟨rfl, K7⟩
      have HK7 := Lib.hid (HK6.out.trans K7 (fun _ _ h => h))
      have HT7 := Lib.hid (HT6.out.same K7)
      clear K7 HT6 HK6
      go_wp2_with (go_at_call 37; fail)
      refine (ends_made HT7.out HW.out (by rw [HN.out]; omega) (endsC_due HOK.out (by omega) (by omega))).mono ?_
      rintro e w8 ⟨rfl, K8⟩
      have HK8 := Lib.hid (HK7.out.trans K8 (fun _ _ h => h))
      clear K8 HT7 HK7
      go_wp2_with (go_at_call 14; fail)
      refine (works_c _).mono ?_
      rintro e w9 ⟨rfl, K9⟩
      have HK9 := Lib.hid (HK8.out.trans K9 (fun _ _ h => h))
      clear K9
      go_wp2
      go_ret
      exact ⟨rfl, HK9.out⟩
end Go.Proofs.Ytfhlllmicobafaa
