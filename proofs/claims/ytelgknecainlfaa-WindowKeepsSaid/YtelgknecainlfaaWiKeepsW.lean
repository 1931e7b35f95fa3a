/- The walk of the statement WindowKeeps. -/
import Derived.Test.YtelgknecainlfaaWiCountsW
import Derived.Test.YtelgknecainlfaaGeApp3
namespace Go.Proofs.Ytelgknecainlfaa
open Go.RowKit
open Wi (vld Srt chk longE)

theorem RS.fresh {w0 w1 : World} {v1 : Value} {l : List Int} (h : w1.ownsRow w0.heap.size 2 1 v1 (0 + l.length) ([] ++ l.map (Value.int .i64))) (K : Kept (fun b => (Value.slice (some ⟨w0.heap.size, 0, none⟩) 0 0).ownBlock = some b) (w0.alloc (.cells #[] 2)) w1) : RS w0 w1 v1 l := by
  refine ⟨by simpa [iv] using h, ?_, ((Kept.refl _ w0).alloc _).trans K (fun i hi h => by simp [Value.ownBlock] at h; omega)⟩
  have := K.size
  simp at this
  omega
theorem thinF_len (T U : Int) (l : List Int) : (thinF T U l).length ≤ l.length := by
  have : ∀ (m : List Int) (o : List Int), (m.foldl (tstep T U) o).length ≤ o.length + m.length := by
    intro m
    induction m with
    | nil => intro o; exact Nat.le_refl _
    | cons x m ih =>
      intro o
      have := ih (tstep T U o x)
      have := tstep_len T U o x
      simp only [List.foldl_cons, List.length_cons]
      omega
  have h := this l []
  rw [List.length_nil, Nat.zero_add] at h
  exact h
set_option maxRecDepth 100000 in
set_option maxHeartbeats 4000000 in
theorem keeps_w {w : World} {v : Value} {l : List Int} (h : Ints w v l) (hl : l.length ≤ maxLen) (T U L : Int) : Calls Try.prog 3 #[.agg #[.int .i64 T, .int .i64 U], v, .int .i64 L] w fun e w' => e = .returned (.bool true) ∧ Kept (fun _ => False) w w' := by
  have HK0 := Lib.hid ((Kept.refl (fun _ => False) w).alloc (.cells #[.int .i64 T, .int .i64 U] 23))
  have HROW := Lib.hid (RowAt.new w 23 #[.int .i64 T, .int .i64 U])
  have HF := Lib.hid (fun W (K : Kept (fun _ => False) w W) => few_c (h.same K) (maxlen_le hl))
  cases hf : fewB l.length with
  | false =>
    obtain ⟨aa, cap, rfl⟩ := h.len
    clear h hl
    rw [hf] at HF
    generalize l.length = n at HF hf ⊢
    clear hf
    go_enter Try.func3, Try.ntmps3
    go_wp2_with (first | (go_at_call 13; refine (HF.out _ HK0.out).mono ?_; rintro e w1 ⟨rfl, rfl⟩) | (go_at_call 14; refine works_t.mono ?_; rintro e w2 ⟨rfl, K⟩))
    go_ret
    exact ⟨rfl, HK0.out.trans K (fun _ _ h => h)⟩
  | true =>
    have hn : l.length ≤ 100010 := few_le hf
    have hl' : l.length ≤ 4611686018427387904 := by omega
    have HQ := Lib.hid h
    have HC1 := Lib.hid (fun W (K : Kept (fun _ => False) w W) => keeps_c (h.same K) hl' T U)
    have HC2 := Lib.hid (fun W (K : Kept (fun _ => False) w W) => rkeeps_c (h.same K) hl' T U)
    have HC3 := Lib.hid (fun W (K : Kept (fun _ => False) w W) => thin_c (h.same K) hl' T U)
    have HC4 := Lib.hid (fun W (K : Kept (fun _ => False) w W) => rthin_c (h.same K) hl' T U)
    obtain ⟨aa, cap, rfl⟩ := h.len
    rw [hf] at HF
    obtain ⟨n, hnn⟩ : ∃ n : Nat, n = l.length := ⟨_, rfl⟩
    rw [← hnn] at hn HF HQ HC1 HC2 HC3 HC4 ⊢
    have HN := Lib.hid hnn
    clear hf h hl hl' hnn
    go_enter Try.func3, Try.ntmps3
    go_upto_region 3 with (go_at_call 13; refine (HF.out _ HK0.out).mono ?_; rintro e w1 ⟨rfl, rfl⟩)
    generalize w.heap.size = b at HROW ⊢
    generalize w.alloc (.cells #[.int .i64 T, .int .i64 U] 23) = w0 at HROW HK0 ⊢
    clear HF
    have HI0 := Lib.hid ((HQ.out.same HK0.out).same ((Kept.refl (fun _ => False) w0).alloc (.cells #[] 2)))
    have HL : Hid (0 + l.length ≤ 1000000000) := Lib.hid (by have := HN.out; omega)
    go_wp2_with (at_builtin; go_loud (refine wpList_appInts el24 rfl (.tmp 29) (.tmp 30) rfl w0.heap.size _ _ 0 [] l rfl rfl (own_empty w0 2 1) HI0.out HL.out (by simp) ?_; intro v1 w1 hown K1; have HO : Hid (RS w0 w1 v1 l) := Lib.hid (RS.fresh hown K1); clear hown K1; have HR1 := Lib.hid (HROW.out.same HO.out.2.2); have HK1 := Lib.hid (HK0.out.trans HO.out.2.2 (fun _ _ h => h)); have HI1 : Hid (Ints w1 v1 l) := Lib.hid HO.out.ints; clear HROW HK0 HI0 HL HO; have c0 := HR1.out.get (j := 0) rfl; have c1 := HR1.out.get (j := 1) rfl; have hb := HR1.out.lt))
    refine (HC1.out _ HK1.out).mono ?_
    rintro e w2 ⟨ki, kj, kb, rfl, hr, K⟩
    have HREL := Lib.hid hr
    have HK2 := Lib.hid (HK1.out.trans K (fun _ _ h => h))
    have HR2 := Lib.hid (HR1.out.same K)
    have HI2 := Lib.hid (HI1.out.same K)
    clear hr K HK1 HR1 HI1 c0 c1 hb HC1
    have c0 := HR2.out.get (j := 0) rfl
    have c1 := HR2.out.get (j := 1) rfl
    have hb := HR2.out.lt
    go_wp2_with (go_at_call 16; fail)
    refine (HC2.out _ HK2.out).mono ?_
    rintro e w3 ⟨ki', kj', kb', rfl, hr, K⟩
    obtain ⟨rfl, rfl, rfl⟩ : ki = ki' ∧ kj = kj' ∧ kb = kb' := by
      have h1 := HREL.out
      split at h1
      · rename_i q
        rw [if_pos q] at hr
        exact h1.unique hr
      · rename_i q
        rw [if_neg q] at hr
        exact ⟨by rw [h1.1, hr.1], by rw [h1.2.1, hr.2.1], by rw [h1.2.2, hr.2.2]⟩
    have HK3 := Lib.hid (HK2.out.trans K (fun _ _ h => h))
    have HR3 := Lib.hid (HR2.out.same K)
    have HI3 := Lib.hid (HI2.out.same K)
    clear hr K HK2 HR2 HI2 c0 c1 hb HC2 HREL
    have c0 := HR3.out.get (j := 0) rfl
    have c1 := HR3.out.get (j := 1) rfl
    have hb := HR3.out.lt
    go_wp2_with (go_at_call 17; fail)
    refine (HC3.out _ HK3.out).mono ?_
    rintro e w4 ⟨va, rfl, hra⟩
    have hK := hra.2.2
    have HK4 := Lib.hid (HK3.out.trans hK (fun _ _ h => h))
    have HR4 := Lib.hid (HR3.out.same hK)
    have HI4 := Lib.hid (HI3.out.same hK)
    have HA4 := Lib.hid hra
    have HB3 : w.heap.size ≤ w3.heap.size := HK3.out.size
    have hb3 : Hid (∀ c, v1.ownBlock = some c → 0 < l.length → c < w3.heap.size) := Lib.hid fun c hc h0 => HI3.out.block hc h0
    clear hK HK3 HR3 HI3 c0 c1 hb HC3 hra
    have c0 := HR4.out.get (j := 0) rfl
    have c1 := HR4.out.get (j := 1) rfl
    have hb := HR4.out.lt
    go_wp2_with (go_at_call 18; fail)
    refine (HC4.out _ HK4.out).mono ?_
    rintro e w5 ⟨vb, rfl, hrb⟩
    have hK := hrb.2.2
    have HK5 := Lib.hid (HK4.out.trans hK (fun _ _ h => h))
    have HR5 := Lib.hid (HR4.out.same hK)
    have HI5 := Lib.hid (HI4.out.same hK)
    have HA5 := Lib.hid (HA4.out.move hK)
    have HB5 := Lib.hid hrb.ints
    clear hK HK4 HR4 HI4 c0 c1 hb HC4 hrb HA4
    have c0 := HR5.out.get (j := 0) rfl
    have c1 := HR5.out.get (j := 1) rfl
    have hb := HR5.out.lt
    go_wp2_with (go_at_call 19; fail)
    refine (bound_c T U L _).mono ?_
    rintro e w6 ⟨rfl, K⟩
    have HK6 := Lib.hid (HK5.out.trans K (fun _ _ h => h))
    have HR6 := Lib.hid (HR5.out.same K)
    have HI6 := Lib.hid (HI5.out.same K)
    have HA6 := Lib.hid (HA5.out.move K)
    have HB6 := Lib.hid (HB5.out.same K)
    clear K HK5 HR5 HI5 HA5 HB5 c0 c1 hb
    have c0 := HR6.out.get (j := 0) rfl
    have c1 := HR6.out.get (j := 1) rfl
    have hb := HR6.out.lt
    go_wp2_with (go_at_call 20; fail)
    refine (rbound_c T U L _).mono ?_
    rintro e w7 ⟨rfl, K⟩
    have HK7 := Lib.hid (HK6.out.trans K (fun _ _ h => h))
    have HI7 := Lib.hid (HI6.out.same K)
    have HA7 := Lib.hid (HA6.out.move K)
    have HB7 := Lib.hid (HB6.out.same K)
    clear K HK6 HR6 HI6 HA6 HB6 c0 c1 hb
    have HM : Hid ((if bothE T U l = 0 then thinF T U l else []).length ≤ n) := Lib.hid (by
      split
      · have := thinF_len T U l; have := HN.out; omega
      · exact Nat.zero_le _)
    generalize (if bothE T U l = 0 then thinF T U l else []) = M at HA7 HB7 HM
    have HS := Lib.hid (same_c HA7.out.ints HB7.out (by have := HM.out; omega) (by have := HM.out; omega))
    clear HB7
    obtain ⟨pa, ca, hva⟩ := HA7.out.val
    obtain ⟨m, hm⟩ : ∃ m : Nat, m = M.length := ⟨_, rfl⟩
    subst hva
    rw [← hm] at HA7 HM HS ⊢
    have HMM := Lib.hid hm
    clear hm
    rw [decide_eq_true (rfl : M = M)] at HS
    go_wp2_with (go_at_call 21; fail)
    refine HS.out.mono ?_
    rintro e w8 ⟨rfl, K⟩
    have HK8 := Lib.hid (HK7.out.trans K (fun _ _ h => h))
    have HI8 := Lib.hid (HI7.out.same K)
    have HA8 := Lib.hid (HA7.out.move K)
    have hbw3 : Hid (w.heap.size ≤ w3.heap.size) := Lib.hid HB3
    clear K HK7 HI7 HA7 HS
    go_wp2
    go_loopw [24] (fun qv wr => ∃ (j : Nat) (xs : List Value), j ≤ m ∧ qv = .int .i64 j ∧ wr.ownsRow w3.heap.size 2 1 (.slice pa m ca) m xs ∧ Kept (fun b => (Value.slice pa m ca).ownBlock = some b) w8 wr) (fun i _ => match i with | .int _ x => (m - x).toNat | _ => 0)
    case atStart => exact ⟨0, iv M, Nat.zero_le _, rfl, by have := HA8.out.1; rw [← HMM.out] at this; exact this, Kept.refl _ _⟩
    case round =>
      obtain ⟨j, xs, hj, rfl, ho, K⟩ := hrel
      have HO := Lib.hid ho
      have HK := Lib.hid K
      by_cases hlt : j < m
      · obtain ⟨g, cap', hv, hg⟩ := ownsRow_pos ho (by omega)
        injection hv with e1 e2 e3
        subst e1 e3
        have hxl : xs.length = m * 1 := ho.1
        have c0 : wr.cell? ⟨g, j, none⟩ = some xs[j] := by rw [ho.cellAt j (by omega)]; exact List.getElem?_eq_getElem (by omega)
        have f0 := ownsRow_frozen ho j
        have hgl := (ownsRow_block ho (b := g) rfl).2
        generalize xs[j] = x at c0
        have HO2 := Lib.hid (ownsRow_putAt ho j (.int .i64 (-1)))
        have HK2 := Lib.hid (K.setCell ⟨g, j, none⟩ (.int .i64 (-1)) (fun _ => rfl))
        clear ho K
        have hmx : m ≤ 100010 := by have := HM.out; omega
        go_wp2
        go_roundw
        case rel => exact ⟨j + 1, _, by omega, by go_num, HO2.out, HK2.out⟩
        case measure => simp; omega
      · have hbl := fun c (hc : (Value.slice pa m ca).ownBlock = some c) => (ownsRow_block ho hc).1
        have HKW := Lib.hid (HK8.out.trans K (fun i hi hc => by have := hbl i hc; have := hbw3.out; omega))
        have HI9 := Lib.hid (HI8.out.kept K (fun c hc h0 hs => by have := hbl c hs; have := hb3.out c hc h0; omega))
        have HS := Lib.hid (same_c (HQ.out.same HKW.out) HI9.out (by have := HN.out; omega) (by have := HN.out; omega))
        rw [decide_eq_true (rfl : l = l)] at HS
        clear hbl ho K
        go_wp2_with (go_at_call 21; fail)
        refine HS.out.mono ?_
        rintro e w10 ⟨rfl, K⟩
        go_wp2_with (go_at_call 14; fail)
        refine works_t.mono ?_
        rintro e w11 ⟨rfl, K2⟩
        go_wp2
        go_ret
        exact ⟨rfl, HKW.out.trans (K.trans K2 (fun _ _ h => h)) (fun _ _ h => h)⟩
end Go.Proofs.Ytelgknecainlfaa
