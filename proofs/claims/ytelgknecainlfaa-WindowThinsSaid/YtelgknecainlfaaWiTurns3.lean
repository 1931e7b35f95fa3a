/- WiTurns3: texts for the statements of this seat: contracts of functions, walks, plain laws. Conditions: none. -/
import Derived.Test.YtelgknecainlfaaWiTurns2
set_option linter.all false
/- turns: the walk, of lists of the same length. -/
namespace Go.Proofs.Ytelgknecainlfaa
open Go.RowKit
open Wi (vld Srt chk)

/-- The row of turns in the making. -/
def TS (w wk : World) (v : Value) (xs : List T2) : Prop := wk.ownsRow w.heap.size 62 2 v xs.length (tw xs) ∧ w.heap.size ≤ wk.heap.size ∧ Kept (fun _ => False) w wk
theorem TS.start (w : World) : TS w w (.slice none 0 0) [] := ⟨⟨rfl, .inl ⟨rfl, rfl⟩⟩, Nat.le_refl _, Kept.refl _ _⟩
theorem TS.step {w w1 w2 : World} {v1 v2 : Value} {x1 x2 : List T2} (h : TS w w1 v1 x1) (h2 : w2.ownsRow w.heap.size 62 2 v2 x2.length (tw x2)) (K : Kept (fun b => v1.ownBlock = some b) w1 w2) : TS w w2 v2 x2 :=
  ⟨h2, Nat.le_trans h.2.1 K.size, h.2.2.trans K fun i hi hv => by have := (ownsRow_block h.1 hv).1; omega⟩
theorem TS.val {w w1 : World} {v : Value} {xs : List T2} (h : TS w w1 v xs) : ∃ p c, v = .slice p xs.length c := by
  rcases h.1.2 with ⟨rfl, h0⟩ | ⟨g, cap, cur, rfl, -⟩
  · exact ⟨none, 0, by rw [h0]⟩
  · exact ⟨_, cap, rfl⟩
theorem TS.move {w w1 w2 : World} {v : Value} {x : List T2} (h : TS w w1 v x) (K : Kept (fun _ => False) w1 w2) : TS w w2 v x :=
  ⟨ownsRow_kept h.1 K (fun _ _ _ h => h), Nat.le_trans h.2.1 K.size, h.2.2.trans K (fun _ _ h => h)⟩
set_option maxRecDepth 100000 in
set_option maxHeartbeats 4000000 in
theorem turns_good {w : World} {v u : Value} {f g : List Int} (h : Ints w v f) (k : Ints w u g) (hl : f.length ≤ 100000) (hfg : f.length = g.length) : Calls Try.prog 42 #[v, u] w (TurnsPost f g w) := by
  have HQ := Lib.hid h
  have HP := Lib.hid k
  have HT := Lib.hid (fun t c => times_c (c := c) (LL.two t h (by omega) k (by omega)) rfl (by simp))
  obtain ⟨aa, cap, rfl⟩ := h.len
  obtain ⟨ab, cbp, rfl⟩ := k.len
  obtain ⟨n, hn⟩ : ∃ n : Nat, n = f.length := ⟨_, rfl⟩
  have hm : n = g.length := by omega
  rw [← hn] at hl HQ ⊢
  rw [← hn, ← hm] at HT
  rw [← hm] at HP ⊢
  have HN := Lib.hid hn
  have HM := Lib.hid hm
  have HFG : Hid (f.length = g.length ∧ ¬ 100000 < f.length) := Lib.hid ⟨by omega, by omega⟩
  clear h k hn hm hfg
  have HK0 := Lib.hid (fun t => (Kept.refl (fun _ => False) w).alloc (.cells #[.slice aa n cap, .slice ab n cbp] t))
  have HT1 : Hid (timesE [f, g] = if (f.all vld && g.all vld) = true then 0 else 14) := Lib.hid (by unfold timesE; simp)
  cases hv : f.all vld && g.all vld with
  | false =>
    have HE := Lib.hid (runsE_time HFG.out.2 HFG.out.1 hv)
    rw [HT1.out, hv, if_neg (by decide)] at HT
    clear hv HT1
    go_enter Try.func42, Try.ntmps42
    go_wp2_with (go_at_call 48; refine (HT.out _ _).mono ?_; rintro e w1 ⟨rfl, rfl⟩)
    go_ret2
    exact ⟨_, [], by rw [HE.out]; rfl, Tws.nil _, by rw [if_neg (by rw [HE.out]; decide)], HK0.out _⟩
  | true =>
    have HEO := Lib.hid (runsE_ord HFG.out.2 HFG.out.1 hv)
    rw [HT1.out, hv, if_pos rfl] at HT
    clear hv HT1
    go_enter Try.func42, Try.ntmps42
    go_upto_region 8 with (go_at_call 48; refine (HT.out _ _).mono ?_; rintro e w1 ⟨rfl, rfl⟩)
    have HK1 := Lib.hid (HK0.out 24)
    generalize w.alloc (.cells #[.slice aa n cap, .slice ab n cbp] 24) = w1 at HK1 ⊢
    clear HK0 HT
    have HQ1 := Lib.hid (HQ.out.same HK1.out)
    have HP1 := Lib.hid (HP.out.same HK1.out)
    clear HQ HP
    go_wp2
    go_loopw [7, 28] (fun ov jv wr => ∃ (j : Nat), j ≤ n ∧ jv = .int .i64 j ∧ (∀ q x y, q < j → f[q]? = some x → g[q]? = some y → x ≤ y) ∧ (trnU f g j).length ≤ 2 * j ∧ TS w1 wr ov (trnU f g j)) (fun _ i _ => match i with | .int _ x => (n - x).toNat | _ => 0)
    case atStart => exact ⟨0, Nat.zero_le _, rfl, fun q x y h => absurd h (by omega), Nat.le_refl _, TS.start _⟩
    case round =>
      obtain ⟨j, hj, rfl, hb, hlen, hts⟩ := hrel
      have HB := Lib.hid hb
      have HTS := Lib.hid hts
      clear hb hts
      by_cases hlt : j < n
      · have hjf : j < f.length := by have := HN.out; omega
        have hjg : j < g.length := by have := HM.out; omega
        obtain ⟨b0, off, cap', hv, hb0, hcell⟩ := (HQ1.out.same HTS.out.2.2).pos (by have := HN.out; omega)
        rw [← HN.out] at hv
        injection hv with e1 e2 e3
        subst e1 e3
        have c0 := IntsK.at hcell hjf
        clear hcell
        obtain ⟨b1, of1, ca1, hv, hb1, hcell⟩ := (HP1.out.same HTS.out.2.2).pos (by have := HM.out; omega)
        rw [← HM.out] at hv
        injection hv with e1 e2 e3
        subst e1 e3
        have c1 := IntsK.at hcell hjg
        clear hcell
        have HX := Lib.hid (get_of hjf)
        have HY := Lib.hid (get_of hjg)
        generalize f[j] = x at c0 HX
        generalize g[j] = y at c1 HY
        by_cases hE : y < x
        · have HE : Hid (runsE f g = 8) := Lib.hid (by rw [HEO.out, if_pos (List.any_eq_true.2 ⟨(x, y), List.mem_of_getElem? (zip_at HX.out HY.out), by simp [backB, hE]⟩)])
          go_wp2
          go_quiet (fail)
          go_wp2
          go_ret2
          exact ⟨_, [], by rw [HE.out]; rfl, Tws.nil _, by rw [if_neg (by rw [HE.out]; decide)], (HK1.out.trans HTS.out.2.2 (fun _ _ h => h)).drewN _⟩
        · have HB2 : Hid (∀ q x y, q < j + 1 → f[q]? = some x → g[q]? = some y → x ≤ y) := Lib.hid fun q x' y' hq hx' hy' => by
            by_cases e : q = j
            · subst e; rw [HX.out] at hx'; rw [HY.out] at hy'; injection hx' with hx'; injection hy' with hy'; omega
            · exact HB.out q x' y' (by omega) hx' hy'
          have HSN := Lib.hid (trnU_snoc HX.out HY.out)
          by_cases hxy : x = y
          · subst hxy
            have HS2 : Hid (trnU f g (j + 1) = trnU f g j) := Lib.hid (by rw [HSN.out]; simp [trn1])
            have HTSD := Lib.hid (fun k => HTS.out.move ((Kept.refl (fun _ => False) wr).drewN k))
            go_wp2
            go_quiet (fail)
            go_wp2
            go_quiet (fail)
            go_wp2
            go_roundw
            case rel => exact ⟨j + 1, by omega, by go_num, HB2.out, by rw [HS2.out]; omega, by rw [HS2.out]; exact HTS.out.move ((Kept.refl (fun _ => False) wr).drewN _)⟩
            case measure => simp; omega
          · have hb2 : (x == y) = false := by simpa using hxy
            have HS2 : Hid (trnU f g (j + 1) = trnU f g j ++ [(x, true), (y, false)]) := Lib.hid (by rw [HSN.out]; simp [trn1, hxy])
            go_wp2
            go_quiet (fail)
            have hq : TS w1 (wr.drewN nq) u7 (trnU f g j) ∧ (wr.drewN nq).cell? ⟨b0, off + j, none⟩ = some (.int .i64 x) ∧ (wr.drewN nq).cell? ⟨b1, of1 + j, none⟩ = some (.int .i64 y) := ⟨HTS.out.move ((Kept.refl (fun _ => False) wr).drewN _), c0, c1⟩
            generalize wr.drewN nq = W0 at hq ⊢
            clear c0 c1 HTS
            obtain ⟨hts, c0, c1⟩ := hq
            have HTS := Lib.hid hts
            clear hts
            go_wp2
            go_quiet (fail)
            have hq : TS w1 (W0.drewN nq) u7 (trnU f g j) ∧ (W0.drewN nq).cell? ⟨b0, off + j, none⟩ = some (.int .i64 x) ∧ (W0.drewN nq).cell? ⟨b1, of1 + j, none⟩ = some (.int .i64 y) := ⟨HTS.out.move ((Kept.refl (fun _ => False) W0).drewN _), c0, c1⟩
            generalize W0.drewN nq = W at hq ⊢
            clear c0 c1 HTS
            obtain ⟨hts, c0, c1⟩ := hq
            have HTS := Lib.hid hts
            obtain ⟨i, z, hi, hz, hsz1, hby, hzs⟩ := el58.info
            obtain ⟨v', w5, hrun, own5, hg5, hor⟩ := run_append_new (P := Try.prog) ((W.alloc (.cells #[.int .i64 x, .bool true, .int .i64 y, .bool false] 62)).drew) w1.heap.size 58 58 62 i z 2 16 Try.underlying58 hi hz hsz1 hby hzs (by decide) u7 (trnU f g j).length (tw (trnU f g j)) (hts.1.alloc _) ⟨W.heap.size, 0, none⟩ 2 2 [.int .i64 x, .bool true, .int .i64 y, .bool false] rfl
              (fun j u hj => by rw [Addr.add_mid, Nat.zero_add]; show (W.alloc (.cells #[.int .i64 x, .bool true, .int .i64 y, .bool false] 62)).cell? _ = _; rw [World.cell?_alloc_at _ _ _ _ rfl]; simpa using hj) (tw_one [(x, true), (y, false)]) (by unfold maxLen; omega) (by omega) (by have := hts.2.1; simp; omega) (by decide)
            have K5 : Kept (fun b => u7.ownBlock = some b) W w5 := ((Kept.refl _ W).alloc _).drew.trans (Kept.of_grown hg5) (fun i _ q => q)
            have HNX : Hid (TS w1 w5 v' (trnU f g (j + 1)) ∧ (trnU f g (j + 1)).length ≤ 2 * (j + 1)) := Lib.hid ⟨HTS.out.step (by rw [HS2.out, tw_append, List.length_append]; exact own5) K5, by rw [HS2.out, List.length_append]; simp; omega⟩
            clear hts hor hg5 own5 K5 hi hz hsz1 hby hzs
            simp [go_sem] at hrun
            go_wp2
            go_region
            all_goals
              go_wp2
              go_roundw
              case rel => exact ⟨j + 1, by omega, by go_num, HB2.out, HNX.out.2, HNX.out.1⟩
              case measure => simp; omega
      · have HF : Hid (trnU f g j = trn f g) := Lib.hid (by unfold trnU trn; rw [List.take_of_length_le (by rw [List.length_zip]; have := HN.out; omega)])
        have HZ : Hid (runsE f g = 0) := Lib.hid (by
          rw [HEO.out, if_neg]
          intro q
          obtain ⟨⟨x, y⟩, hxy, hbk⟩ := List.any_eq_true.1 q
          obtain ⟨i, hi⟩ := List.getElem?_of_mem hxy
          rw [List.getElem?_zip_eq_some] at hi
          have := HB.out i x y (by have := (List.getElem?_eq_some_iff.1 hi.1).1; have := HN.out; omega) hi.1 hi.2
          simp [backB] at hbk
          omega)
        have HSO := Lib.hid (sortW_c (trnU f g j) (by omega) (HTS.out.1))
        go_wp2_with (go_at_call 58; refine (HSO.out).mono ?_; rintro e w3 ⟨rfl, d, hd1, hd2, hd3, K3⟩; have HD1 := Lib.hid hd1; have HD2 := Lib.hid hd2; have HD3 := Lib.hid hd3; have HK3 := Lib.hid K3; clear hd1 hd2 hd3 K3)
        go_ret2
        exact ⟨_, d, by rw [HZ.out]; rfl, HD3.out, by rw [if_pos HZ.out]; exact ⟨by rw [← HF.out]; exact HD1.out, HD2.out⟩, HK1.out.trans (HTS.out.2.2.trans HK3.out (fun i hi hv => by have := (ownsRow_block HTS.out.1 hv).1; omega)) (fun _ _ h => h)⟩
end Go.Proofs.Ytelgknecainlfaa
