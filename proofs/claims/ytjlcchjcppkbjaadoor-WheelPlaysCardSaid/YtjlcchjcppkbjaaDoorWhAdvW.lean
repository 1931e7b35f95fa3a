/- WhAdvW: texts for the statements of this seat: contracts of functions, walks, plain laws. Conditions: none. -/
import Derived.Deep.LoopGhost
import Derived.Deep.RegionHeld3
import Derived.Test.YtjlcchjcppkbjaaDoorWhAv
set_option linter.all false
/- Advance: the walk. -/
namespace Go.Proofs.YtjlcchjcppkbjaaDoor
open Go.RowKit
variable {w w' : World} {base wb ab sb cap mb : Nat} {kd kd' : Nat → Nat} {ts : List Pt}
set_option maxRecDepth 100000 in
set_option maxHeartbeats 8000000 in
theorem adv_go {W : Wh} (hT : Tab w) (hb0 : 0 < base) (ok : WOk W) (h : WMem w base wb ab sb cap mb kd (W.now + 1) W.now W.seq W.a ts ts) (hts : ts.map Pt.x = W.l) (lim : Int) (h0 : W.now ≤ lim) (h1 : lim ≤ 4611686018427387904) :
    Calls Tryd.prog 17 #[.pointer (some ⟨wb, 0, none⟩), .int .i64 lim] w (AdvPost w base wb kd { W with now := lim, a := freeAll W.a (due lim W.l), l := rest lim W.l } (due lim W.l)) := by
  have HV := Lib.hid (valid_c h)
  have c0 := h.c0
  have lw := h.ltw
  have hnow := ok.now.1
  have HOK := Lib.hid ok
  have HT := Lib.hid hT
  have hlo := h.lo
  have HKD0 : Hid (kd 0 = 0) := Lib.hid (by
    by_cases e : kd 0 = 0
    · exact e
    · have := (hlo 0 e).1; omega)
  have HA0 : Hid (Adv w base wb ab sb cap mb kd W lim (W.now + 1) [] ts (.slice none 0 0) w) := Lib.hid ⟨⟨kd, h, fun _ _ => rfl, fun b e => by simp [Value.ownBlock] at e⟩, by rw [hts]; rfl, fun x hx => by simp at hx, by omega, Int.le_refl _, Own.nil _ _, Kept.refl _ _⟩
  have hlen : ts.length ≤ 4096 := by have := ok.short; rw [← hts, List.length_map] at this; exact this
  have HL : Hid (W.l.length ≤ 4096) := Lib.hid ok.short
  have hseq : W.l.length ≤ 4096 := ok.short
  clear h hT ok hlo hts hb0
  go_enter Tryd.func17, Tryd.ntmps17
  go_wp2_with (go_at_call 39; refine HV.out.mono ?_; rintro e w' ⟨rfl, hww⟩; obtain rfl := hww.symm)
  go_loopg [6] (lim + 1 - (W.now + 1)).toNat (fun kx s6 wr => ∃ (fr : Int) (fired : List Tm) (tl : List Pt) (v : Value), s6 = v ∧ (lim + 1 - fr).toNat ≤ kx ∧ Adv w base wb ab sb cap mb kd W lim fr fired tl v wr)
  case atStart => exact ⟨_, [], ts, _, rfl, Nat.le_refl _, HA0.out⟩
  case round =>
    obtain ⟨fr, fired, tl, v, rfl, hkx, ha⟩ := hrel
    have HA := Lib.hid ha
    obtain ⟨pv, cv, hv⟩ := ha.out.sl
    rw [List.length_map] at hv
    obtain rfl := hv
    obtain ⟨kd', M, k1, k2⟩ := ha.mem
    obtain ⟨V, Q, C, P⟩ := M.core
    have hf0 := ha.fr0
    have hf1 := ha.fr1
    have hll : tl.length ≤ 4096 := by have := HL.out; rw [ha.spl, List.length_append, List.length_map] at this; omega
    have hTr : Tab wr := HT.out.kept ha.K (fun e => e HKD0.out)
    have HFI := Lib.hid (first_c hTr C P (by omega) (by omega) (by omega))
    have HM := Lib.hid M
    have HC := Lib.hid C
    have HP := Lib.hid P
    have HK1 := Lib.hid k1
    have HK2 := Lib.hid k2
    have HHX := Lib.hid hkx
    have HKK := Lib.hid ha.K
    clear ha M C P k1 k2 hkx hTr HA0 hf1
    go_wp2_with fail
    refine HFI.out.mono ?_
    rintro e w2 ⟨hf, K2⟩
    have HK := Lib.hid K2
    rcases hf with ⟨hz, rfl⟩ | ⟨L, s, at_, FO, rfl⟩
    · have hall : ∀ t ∈ tl, lim < t.x.at_ := fun t ht => by rw [hz] at ht; simp at ht
      obtain ⟨x1, x2, x3, x4, x5, x6⟩ := adv_exit HOK.out (HA.out.same K2) h0 h1 hall hll
      have HX1 := Lib.hid x1
      have HX2 := Lib.hid x2
      clear x1 x2 hall hz K2
      by_cases hle : fr ≤ lim
      · have HC3 := Lib.hid (HX1.out hle)
        go_wp2_with fail
        refine HC3.out.mono ?_
        rintro e w4 ⟨rfl, hfin⟩
        go_wp2_with fail
        go_ret2
        exact hfin
      · have HC3 := Lib.hid (HX2.out (by omega))
        go_wp2_with fail
        go_ret2
        exact HC3.out
    · have HFO := Lib.hid FO
      have hat0 := FO.ge
      by_cases hle : at_ ≤ lim
      · have hmeas : (lim + 1 - at_).toNat < gk ∨ at_ ≤ fr := by
          have := HHX.out
          omega
        by_cases hL : 0 < L
        · have hgt := FO.gt hL
          have hm : (lim + 1 - at_).toNat < gk := by omega
          have HEN := Lib.hid (adv_enter (HA.out.same K2) hnow h1 hat0 (by omega) FO.lo hll)
          have b1 : decide ((0 : Int) < (L : Int)) = true := decide_eq_true (by omega)
          have b2 : (0 : Int) < (L : Int) := by omega
          clear FO K2 hmeas
          go_wp2_with fail
          refine HEN.out.mono ?_
          rintro e w4 ⟨rfl, hadv⟩
          have HAD := Lib.hid hadv
          clear hadv b1 b2
          go_wp2_with fail
          go_roundg (lim + 1 - at_).toNat
          case measure => exact hm
          case rel => exact ⟨at_, fired, tl, _, rfl, Nat.le_refl _, HAD.out⟩
        · obtain rfl : L = 0 := by omega
          have hs := FO.hs
          have hA2 := HA.out.same K2
          have HA2 := Lib.hid hA2
          have HM2 := Lib.hid (HM.out.same K2)
          have HC2 := Lib.hid (HC.out.same K2)
          have HEM : Hid (Calls Tryd.prog 44 #[.pointer (some ⟨wb, 0, none⟩), .int .i64 0, .int .i64 s] w2 fun e w3 => e = .returned (V s) ∧ Calls Tryd.prog 45 #[V s, .func (.func 46) #[] #[]] w3 fun e w4 => e = .returned (.tuple #[]) ∧ AdvI w base wb ab sb cap mb kd W lim fr fired (past at_ tl) (upto at_ tl) (V s) (.slice pv fired.length cv) 0 w4) := Lib.hid (by
            have he := empty_c HC2.out (L := 0) (s := s) (by omega) hs
            rw [show 64 * 0 + s = s by omega] at he
            exact he.mono fun e w3 hh => ⟨hh.1, adv_sort HOK.out HA2.out HM2.out HK1.out HK2.out HC2.out HP.out HFO.out hll hh.2⟩)
          have hrow := HC2.out.R.row s (by omega)
          generalize hv : V s = v1 at HEM hrow
          obtain ⟨p1, c1, rfl⟩ := own_sl hrow
          have hupl : (upto at_ tl).length ≤ 4096 := Nat.le_trans (List.takeWhile_sublist _).length_le hll
          have HUP : Hid ((∀ t ∈ upto at_ tl, t.x.at_ ≤ lim) ∧ (∀ t ∈ past at_ tl, at_ + 1 ≤ t.x.at_) ∧ (past at_ tl).length ≤ 4096) := Lib.hid (by
            have hsrt := sub_sorted HOK.out HA.out.spl
            refine ⟨fun t ht => ?_, fun t ht => ?_, Nat.le_trans (List.dropWhile_sublist _).length_le hll⟩
            · have := (mem_upto hsrt (x_inj (nodup_h HOK.out HA.out.spl))).1 ht; omega
            · have := (mem_past hsrt ht).2; omega)
          have hm : (lim + 1 - (at_ + 1)).toNat < gk := by have := HHX.out; omega
          have j7 : (0 : Int) ≤ (s : Int) := by omega
          clear FO K2 hmeas hA2 hrow hv
          generalize hd : upto at_ tl = d at *
          generalize hp : past at_ tl = tr at *
          clear hd hp
          go_wp2_with fail
          refine HEM.out.mono ?_
          rintro e w3 ⟨rfl, hsort⟩
          have HSO := Lib.hid hsort
          clear hsort
          go_wp2_with fail
          refine HSO.out.mono ?_
          rintro e w4 ⟨rfl, hadvi⟩
          obtain ⟨p3, c3, hv3⟩ := hadvi.row.len
          injection hv3 with e1 e2 e3
          subst e1 e3
          rw [e2] at hadvi ⊢
          have HAI := Lib.hid hadvi
          clear hadvi e2 HEM HSO
          go_wp2_with fail
          obtain ⟨wo, rfl⟩ : ∃ wo : World, wo = wr := ⟨_, rfl⟩
          go_loopw [6, 58] (fun s6 s58 wr => ∃ (k : Nat) (v' : Value), k ≤ d.length ∧ s58 = .int .i64 k ∧ s6 = v' ∧ AdvI w base wb ab sb cap mb kd W lim fr fired tr d (.slice p1 d.length c1) v' k wr) (fun _ s58 _ => d.length - (intOf s58).toNat)
          case atStart => exact ⟨0, _, Nat.zero_le _, rfl, rfl, HAI.out⟩
          case round =>
            obtain ⟨k, v', hk, rfl, rfl, hadv⟩ := hrel
            have HI := Lib.hid hadv
            obtain ⟨vp, vc, hv⟩ := hadv.out.sl
            have hlk : ((fired ++ (d.take k).map Pt.x).map Tm.fd).length = fired.length + k := by simp; omega
            rw [hlk] at hv
            obtain rfl := hv
            have hfl : fired.length ≤ 4096 := by have := HL.out; rw [hadv.spl, List.length_append] at this; omega
            by_cases hlt : k < d.length
            · obtain ⟨t, ht⟩ : ∃ t, d[k]? = some t := ⟨_, List.getElem?_eq_getElem hlt⟩
              obtain ⟨g, c', hvv, hcell, hg⟩ := HI.out.row.get k t ht
              injection hvv with hv1 hv2 hv3
              subst hv1
              obtain ⟨kd2, M2, z1, z2, z3, z4⟩ := HI.out.mem
              obtain ⟨q4, lv, sl, T⟩ := z4 t (List.mem_of_getElem? ht)
              have hcell' : wr.cell? ⟨g, k, none⟩ = some (.pointer (some ⟨t.b, 0, none⟩)) := hcell
              have t0 := T.at_
              have t1 := T.id
              have tl0 := T.lt
              have htn : (Value.slice vp (fired.length + k) vc).ownBlock ≠ some t.b := fun e => by have := z2 _ e; omega
              have j1 : (0 : Int) ≤ (k : Int) := by omega
              have j2 : (k : Int) < (d.length : Int) := by omega
              have htk : (fired ++ (d.take (k + 1)).map Pt.x).map Tm.fd = (fired ++ (d.take k).map Pt.x).map Tm.fd ++ [t.x.fd] := by rw [List.take_add_one, ht]; simp
              have HTK := Lib.hid htk
              have HLK := Lib.hid hlk
              have hown := hadv.out
              unfold Own at hown
              rw [hlk] at hown
              have HSZ : Hid (w.heap.size ≤ wr.heap.size) := Lib.hid hadv.K.size
              have HKL : Hid (fired.length + k ≤ 1000000) := Lib.hid (by omega)
              have HTT := Lib.hid ht
              have HS0 : Hid (∀ W', Kept (fun _ => False) wr W' → (W'.cell? ⟨t.b, 0, none⟩ = some (.int .i64 t.x.at_) ∧ W'.cell? ⟨t.b, 1, none⟩ = some (.int .i64 t.x.id) ∧ t.b < W'.heap.size) ∧ W'.ownsRow w.heap.size 54 2 (.slice vp (fired.length + k) vc) (fired.length + k) (cellsL fdC ((fired ++ (d.take k).map Pt.x).map Tm.fd)) ∧ w.heap.size ≤ W'.heap.size) := Lib.hid fun W' K' => ⟨⟨(K'.cell (a := ⟨t.b, 0, none⟩) tl0 (fun h => h)).trans t0, (K'.cell (a := ⟨t.b, 1, none⟩) tl0 (fun h => h)).trans t1, Nat.lt_of_lt_of_le tl0 K'.size⟩, ownsRow_kept hown K' (fun _ _ _ h => h), Nat.le_trans HSZ.out K'.size⟩
              have HS1 : Hid (∀ W' w5 g2 cg, Kept (fun _ => False) wr W' → Kept (fun b => (Value.slice vp (fired.length + k) vc).ownBlock = some b) W' w5 → w5.ownsRow w.heap.size 54 2 (.slice (some ⟨g2, 0, none⟩) (fired.length + k + 1) cg) (fired.length + k + 1) (cellsL fdC ((fired ++ (d.take k).map Pt.x).map Tm.fd) ++ fdC t.x.fd) → ((Value.slice vp (fired.length + k) vc).ownBlock = some g2 ∨ W'.heap.size ≤ g2) →
                  (w5.cell? ⟨t.b, 0, none⟩ = some (.int .i64 t.x.at_) ∧ w5.cell? ⟨t.b, 1, none⟩ = some (.int .i64 t.x.id) ∧ t.b < w5.heap.size) ∧ Calls Tryd.prog 47 #[.pointer (some ⟨wb, 0, none⟩), .pointer (some ⟨t.b, 0, none⟩)] w5 fun e w' => e = .returned (.tuple #[]) ∧ AdvI w base wb ab sb cap mb kd W lim fr fired tr d (.slice (some ⟨g, 0, none⟩) d.length c1) (.slice (some ⟨g2, 0, none⟩) (fired.length + (k + 1)) cg) (k + 1) w') := Lib.hid fun W' w5 g2 cg k1 k2 hrow hor => by
                have kk : Kept (fun b => (Value.slice vp (fired.length + k) vc).ownBlock = some b) wr w5 := (k1.mono (fun _ _ h => h.elim)).trans k2 (fun _ _ h => h)
                refine ⟨⟨(kk.cell (a := ⟨t.b, 0, none⟩) tl0 htn).trans t0, (kk.cell (a := ⟨t.b, 1, none⟩) tl0 htn).trans t1, Nat.lt_of_lt_of_le tl0 kk.size⟩, ?_⟩
                refine AdvI.rem HOK.out HI.out HTT.out ?_ kk (fun b e => ?_)
                · unfold Own
                  rw [HTK.out, List.length_append, HLK.out, cellsL_append, cellsL_one]
                  exact hrow
                · simp only [Value.ownBlock, Option.some.injEq] at e
                  subst e
                  rcases hor with q | q
                  · exact .inl q
                  · exact .inr (Nat.le_trans k1.size q)
              clear hadv hcell T ht hv2 hv3 htk hlk hown z1 z2 z3 z4 M2 htn t0 t1
              go_wp2_with fail
              go_region_held3 (fun W' => W'.cell? ⟨t.b, 0, none⟩ = some (.int .i64 t.x.at_) ∧ W'.cell? ⟨t.b, 1, none⟩ = some (.int .i64 t.x.id) ∧ t.b < W'.heap.size) (first | exact HS2.out.1 | exact (HS0.out _ (by repeat (first | exact Kept.refl _ _ | refine Kept.alloc ?_ _ | refine Kept.drew ?_))).1) (first | (refine step_one rfl (.tmp 62) (.tmp 72) rfl el36 w.heap.size _ _ _ _ (fdC t.x.fd) rfl rfl (HS0.out _ (by repeat (first | exact Kept.refl _ _ | refine Kept.alloc ?_ _ | refine Kept.drew ?_))).2.1 rfl (fun j u hj => by (first | rw [World.cell?_alloc_at _ _ _ _ rfl] | rw [drew_cell, World.cell?_alloc_at _ _ _ _ rfl]); have hj2 := hj; simp only [fdC, Tm.fd] at hj2; simpa using hj2) (fdC_one _) HKL.out (by decide) (HS0.out _ (by repeat (first | exact Kept.refl _ _ | refine Kept.alloc ?_ _ | refine Kept.drew ?_))).2.2 ?_; intro g2 cg w5 hown5 K5 hor hg5; have HS2 := Lib.hid (HS1.out _ w5 g2 cg (by repeat (first | exact Kept.refl _ _ | refine Kept.alloc ?_ _ | refine Kept.drew ?_)) K5 hown5 hor); clear hown5 K5 hor hg5))
              have HRM := Lib.hid HS2.out.2
              clear HS2
              go_wp2_with fail
              refine HRM.out.mono ?_
              rintro e w6 ⟨rfl, hnx⟩
              have HNX := Lib.hid hnx
              clear hnx
              go_wp2_with fail
              go_roundw
              case rel => exact ⟨k + 1, _, by omega, by go_num, rfl, HNX.out⟩
              case measure => simp [intOf]; omega
            · obtain rfl : k = d.length := by omega
              have hf1 := HA.out.fr1
              have hdn := hadv.done HUP.out.1 hf1 hf0
              have HEN := Lib.hid (adv_enter hdn hnow h1 (by omega) (by omega) HUP.out.2.1 HUP.out.2.2)
              clear hadv hdn hlk
              go_wp2_with fail
              refine HEN.out.mono ?_
              rintro e w4 ⟨rfl, hadv⟩
              have HAD := Lib.hid hadv
              clear hadv
              go_wp2_with fail
              go_roundg (lim + 1 - (at_ + 1)).toNat
              case measure => exact hm
              case rel => exact ⟨at_ + 1, _, tr, _, rfl, Nat.le_refl _, HAD.out⟩
      · have hall : ∀ t ∈ tl, lim < t.x.at_ := fun t ht => by have := FO.lo t ht; omega
        obtain ⟨x1, x2, x3, x4, x5, x6⟩ := adv_exit HOK.out (HA.out.same K2) h0 h1 hall hll
        have HX1 := Lib.hid x1
        have HX2 := Lib.hid x2
        clear x1 x2 hall FO K2
        by_cases hle : fr ≤ lim
        · have HC3 := Lib.hid (HX1.out hle)
          go_wp2_with fail
          refine HC3.out.mono ?_
          rintro e w4 ⟨rfl, hfin⟩
          go_wp2_with fail
          go_ret2
          exact hfin
        · have HC3 := Lib.hid (HX2.out (by omega))
          go_wp2_with fail
          go_ret2
          exact HC3.out
end Go.Proofs.YtjlcchjcppkbjaaDoor
