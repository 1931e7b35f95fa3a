/- WhDw: texts for the statements of this seat: contracts of functions, walks, plain laws. Conditions: none. -/
import Derived.Deep.RegionHeld3
import Derived.Test.YtjlcchjcppkbjaaDoorWhDo
import Derived.Test.YtjlcchjcppkbjaaDoorWhRo
set_option linter.all false
/- Advance of the document's wheel. -/
namespace Go.Proofs.YtjlcchjcppkbjaaDoor
open Go.RowKit
variable {w w' w0 : World} {base db rb : Nat} {vL v1 v2 v3 v4 : Value} {W W' : Wh}
theorem DW.setNow (h : DW w base db vL rb v1 v2 v3 v4 W) (t : Int) : DW (w.setCell ⟨db, 1, none⟩ (.int .i64 t)) base db vL rb v1 v2 v3 v4 { W with now := t } := by
  have KS : Kept (fun b => b = db) w (w.setCell ⟨db, 1, none⟩ (.int .i64 t)) := (Kept.refl (fun b => b = db) w).setCell _ _ (fun _ => rfl)
  exact {
    hd := RowAt.set h.hd (j := 1) (by simp) _
    rows := h.rows.kept KS (fun b q _ => (h.own b q).2.2.1)
    ar := h.ar.kept KS (fun b q e => h.apart (by rw [← e]; exact q))
    lo := h.lo
    own := fun b q => by have := h.own b q; exact ⟨this.1, by simpa using this.2.1, this.2.2⟩
    apart := h.apart }
/-- The first timer's handle is freed. -/
theorem free_turn {w5 V w6 : World} {b0 off0 n cE : Nat} {a2 : AA} {x : Tm} {r : List Tm} (h : DW w5 base db (.slice (some ⟨b0, off0, none⟩) n cE) rb v1 v2 v3 v4 W) (hp : RPost V w6 base rb v1 v2 v3 v4 a2) (K : Kept (fun _ => False) w5 V) (hl : W.l = x :: r) :
    ∃ v5, Hid (w6.cell? ⟨db, 2, none⟩ = some (.slice (some ⟨b0, off0, none⟩) n cE) ∧ w6.cell? ⟨db, 3, none⟩ = some (.pointer (some ⟨rb, 0, none⟩)) ∧ w6.cell? ⟨b0, off0 + 2, none⟩ = some (.int .i64 x.h) ∧ b0 < w6.heap.size ∧ db < w6.heap.size) ∧ Hid (DW w6 base db (.slice (some ⟨b0, off0, none⟩) n cE) rb v1 v2 v3 v5 { W with a := a2 } ∧ Kept (FR rb v1 v2 v3 v4) w5 w6 ∧ ∀ b, v5.ownBlock = some b → v4.ownBlock = some b ∨ w5.heap.size ≤ b) := by
  obtain ⟨v5, I, K1, hv⟩ := hp
  have h5 := (h.same K).turn I K1 hv
  have hh : Rows tmC 3 w6 (.slice (some ⟨b0, off0, none⟩) n cE) W.l := h5.rows
  obtain ⟨b1, o1, c1', hv', ⟨-, -, q2⟩, ql, -⟩ := tm_at hh (k := 0) (x := x) (by rw [hl]; rfl)
  injection hv' with hv' _ _
  injection hv' with hv'
  injection hv' with hv1 hv2 _
  subst hv1 hv2
  rw [Nat.zero_mul, Nat.add_zero] at q2
  exact ⟨v5, Lib.hid ⟨h5.hd.get (j := 2) rfl, h5.hd.get (j := 3) rfl, q2, ql, h5.hd.lt⟩, Lib.hid ⟨h5, (K.mono fun _ _ q => q.elim).trans K1 (fun _ _ q => q), fun b q => (hv b q).imp (fun q => q) (fun q => Nat.le_trans K.size q)⟩⟩
/-- In the midst of an Advance: D has fired, E stays. -/
structure DAdv (w wr : World) (base db : Nat) (vL : Value) (rb : Nat) (v1 v2 v3 v4 : Value) (W : Wh) (lim : Int) (s6 : Value) (D E : List Tm) : Prop where
  spl : W.l = D ++ E
  le : ∀ x ∈ D, x.at_ ≤ lim
  out : OwnD wr w.heap.size s6 (D.map Tm.fd)
  dw : ∃ vL' v4', DW wr base db vL' rb v1 v2 v3 v4' { W with now := lim, a := freeAll W.a D, l := E } ∧ (∀ b, DP db vL' rb v1 v2 v3 v4' b → DP db vL rb v1 v2 v3 v4 b ∨ w.heap.size ≤ b) ∧ (∀ b, s6.ownBlock = some b → ¬ DP db vL' rb v1 v2 v3 v4' b)
  kept : Kept (DP db vL rb v1 v2 v3 v4) w wr
/-- One more has fired. -/
theorem DAdv.next {wr w5 w6 : World} {b0 off0 n cE g2 cg : Nat} {lim : Int} {s6 v4' v5 v7 : Value} {D r : List Tm} {x : Tm} (hspl : W.l = D ++ (x :: r)) (hle : ∀ y ∈ D, y.at_ ≤ lim) (hx : x.at_ ≤ lim)
    (HK : Kept (DP db vL rb v1 v2 v3 v4) w wr) (HFR : ∀ b, DP db (.slice (some ⟨b0, off0, none⟩) n cE) rb v1 v2 v3 v4' b → DP db vL rb v1 v2 v3 v4 b ∨ w.heap.size ≤ b)
    (HDJ : ∀ b, s6.ownBlock = some b → ¬ DP db (.slice (some ⟨b0, off0, none⟩) n cE) rb v1 v2 v3 v4' b) (hlt : ∀ b, DP db (.slice (some ⟨b0, off0, none⟩) n cE) rb v1 v2 v3 v4' b → b < wr.heap.size)
    (HOs : ∀ b, s6.ownBlock = some b → w.heap.size ≤ b) (K5 : Kept (fun b => s6.ownBlock = some b) wr w5) (hg : s6.ownBlock = some g2 ∨ wr.heap.size ≤ g2)
    (HW5 : OwnD w5 w.heap.size (.slice (some ⟨g2, 0, none⟩) (D.length + 1) cg) ((D ++ [x]).map Tm.fd))
    (H6 : DW w6 base db (.slice (some ⟨b0, off0, none⟩) n cE) rb v1 v2 v3 v5 { W with now := lim, a := freeAll W.a (D ++ [x]), l := x :: r }) (K6 : Kept (FR rb v1 v2 v3 v4') w5 w6)
    (hv5 : ∀ b, v5.ownBlock = some b → v4'.ownBlock = some b ∨ w5.heap.size ≤ b) (hrow : Rows tmC 3 w6 v7 r) (hvb : ∀ b, v7.ownBlock = some b → b = b0) :
    DAdv w (w6.setCell ⟨db, 2, none⟩ v7) base db vL rb v1 v2 v3 v4 W lim (.slice (some ⟨g2, 0, none⟩) (D.length + 1) cg) (D ++ [x]) r := by
  have hdl : db < wr.heap.size := hlt db (.inl rfl)
  have hg5 : g2 < w5.heap.size := (ownsRow_block HW5 rfl).2
  have hgl : w.heap.size ≤ g2 := (ownsRow_block HW5 rfl).1
  have hs5 := K5.size
  have hsw := HK.size
  have hfr : ∀ b, DP db v7 rb v1 v2 v3 v5 b → DP db (.slice (some ⟨b0, off0, none⟩) n cE) rb v1 v2 v3 v4' b ∨ w5.heap.size ≤ b := fun b q => by
    rcases q with q | q | q
    · exact .inl (.inl q)
    · exact .inl (.inr (.inl (by rw [hvb b q]; rfl)))
    · exact fr_new hv5 q
  have hg2 : ¬ DP db (.slice (some ⟨b0, off0, none⟩) n cE) rb v1 v2 v3 v4' g2 := fun q => by
    rcases hg with h | h
    · exact HDJ g2 h q
    · have := hlt g2 q; omega
  have KS : Kept (fun b => b = db) w6 (w6.setCell ⟨db, 2, none⟩ v7) := (Kept.refl (fun b => b = db) w6).setCell _ _ (fun _ => rfl)
  refine ⟨by rw [hspl]; simp, fun y hy => ?_, ?_, ⟨v7, v5, H6.store (Kept.refl _ _) hrow (fun b q => .inr (by rw [hvb b q]; rfl)) rfl rfl rfl, fun b q => ?_, fun b q => ?_⟩, ?_⟩
  · rcases List.mem_append.1 hy with h | h
    · exact hle y h
    · rw [List.mem_singleton.1 h]; exact hx
  · refine (HW5.kept K6 fun b _ q s => ?_).kept KS fun b _ q s => ?_
    · injection q with q
      exact hg2 (by rw [show g2 = b from q]; exact .inr (.inr s))
    · injection q with q
      exact hg2 (by rw [show g2 = b from q, s]; exact .inl rfl)
  · rcases hfr b q with q | q
    · exact HFR b q
    · exact .inr (by omega)
  · injection q with q
    subst q
    intro s
    rcases hfr _ s with s | s
    · exact hg2 s
    · simp only at s; omega
  · refine ((HK.trans K5 (fun b hb q => by have := HOs b q; omega)).trans K6 (fun b hb q => ?_)).trans KS (fun b hb q => ?_)
    · rcases HFR b (.inr (.inr q)) with h | h
      · exact h
      · omega
    · subst q
      exact .inl rfl
set_option maxRecDepth 100000 in
set_option maxHeartbeats 2000000 in
theorem dadvance_c (h : DW w base db vL rb v1 v2 v3 v4 W) (ok : WOk W) (hll : W.l.length ≤ 5000) {lim : Int} {l : List Tm} {er : Int} (hp : W.advance lim = (W', l, er)) :
    Calls Tryd.prog 30 #[.pointer (some ⟨db, 0, none⟩), .int .i64 lim] w fun e w' => ∃ v, e = .returned (.tuple #[v, .int .i64 er]) ∧ OwnD w' w.heap.size v (l.map Tm.fd) ∧ ∃ vL' v4', DW w' base db vL' rb v1 v2 v3 v4' W' ∧ Kept (DP db vL rb v1 v2 v3 v4) w w' ∧ (∀ b, DP db vL' rb v1 v2 v3 v4' b → DP db vL rb v1 v2 v3 v4 b ∨ w.heap.size ≤ b) ∧ ∀ b, v.ownBlock = some b → ¬ DP db vL' rb v1 v2 v3 v4' b := by
  have HD := Lib.hid h
  have HV := Lib.hid (dvalid_c h)
  have c1 := h.hd.get (j := 1) rfl
  have z1 := h.hd.fz 1
  have cl := h.hd.lt
  have hN : NEVER = 4611686018427387904 := rfl
  unfold Wh.advance at hp
  rw [hN] at hp
  by_cases g1 : lim < 0 ∨ 4611686018427387904 < lim
  · rw [if_pos g1] at hp
    injection hp with e1 e2
    injection e2 with e2 e3
    subst e1 e2 e3
    clear h ok hN
    rcases g1 with g1 | g1
    · have d1 : decide (lim < 0) = true := by simpa using g1
      clear g1
      go_enter Tryd.func30, Tryd.ntmps30
      go_wp2_with (go_at_call 55; refine HV.out.mono ?_; rintro e w' ⟨rfl, hww⟩; obtain rfl := hww.symm)
      go_ret2
      exact ⟨_, rfl, OwnD.nil _ _, vL, v4, HD.out, Kept.refl _ _, fun b q => .inl q, fun b q => by simp [Value.ownBlock] at q⟩
    · have d1 : decide (lim < 0) = false := by simp only [decide_eq_false_iff_not]; omega
      have d2 : decide (4611686018427387904 < lim) = true := by simpa using g1
      clear g1
      go_enter Tryd.func30, Tryd.ntmps30
      go_wp2_with (go_at_call 55; refine HV.out.mono ?_; rintro e w' ⟨rfl, hww⟩; obtain rfl := hww.symm)
      go_ret2
      exact ⟨_, rfl, OwnD.nil _ _, vL, v4, HD.out, Kept.refl _ _, fun b q => .inl q, fun b q => by simp [Value.ownBlock] at q⟩
  rw [if_neg g1] at hp
  have d1 : decide (lim < 0) = false := by simp only [decide_eq_false_iff_not]; omega
  have d2 : decide (4611686018427387904 < lim) = false := by simp only [decide_eq_false_iff_not]; omega
  by_cases g2 : lim < W.now
  · rw [if_pos g2] at hp
    injection hp with e1 e2
    injection e2 with e2 e3
    subst e1 e2 e3
    have d3 : decide (lim < W.now) = true := by simpa using g2
    clear h ok hN g1 g2
    go_enter Tryd.func30, Tryd.ntmps30
    go_wp2_with (go_at_call 55; refine HV.out.mono ?_; rintro e w' ⟨rfl, hww⟩; obtain rfl := hww.symm)
    go_ret2
    exact ⟨_, rfl, OwnD.nil _ _, vL, v4, HD.out, Kept.refl _ _, fun b q => .inl q, fun b q => by simp [Value.ownBlock] at q⟩
  rw [if_neg g2] at hp
  injection hp with e1 e2
  injection e2 with e2 e3
  have d3 : decide (lim < W.now) = false := by simpa using g2
  have HS := Lib.hid ok.sorted
  have HOK := Lib.hid ok
  have HW2 := Lib.hid e1
  subst e2 e3
  clear h ok hN g1 g2 e1
  go_enter Tryd.func30, Tryd.ntmps30
  go_wp2_with (go_at_call 55; refine HV.out.mono ?_; rintro e w' ⟨rfl, hww⟩; obtain rfl := hww.symm)
  have HD1 := Lib.hid (HD.out.setNow lim)
  go_loopw [6] (fun s6 wr => ∃ D E, DAdv w wr base db vL rb v1 v2 v3 v4 W lim s6 D E) (fun s6 _ => W.l.length - slLen s6)
  case atStart => exact ⟨[], W.l, rfl, (fun x h => by simp at h), OwnD.nil _ _, ⟨vL, v4, HD1.out, fun b q => .inl q, fun b q => by simp [Value.ownBlock] at q⟩, (Kept.refl _ w).setCell _ _ (fun _ => .inl rfl)⟩
  case round =>
    obtain ⟨D, E, hA⟩ := hrel
    have HA := Lib.hid hA
    obtain ⟨vL', v4', hdw, hfr, hdj⟩ := hA.dw
    have HDW := Lib.hid hdw
    have HFR := Lib.hid hfr
    have HDJ := Lib.hid hdj
    have HO := Lib.hid hA.out
    have hspl := hA.spl
    have hle := hA.le
    obtain ⟨p6, c6, rfl⟩ := hA.out.sl
    have hdl : D.length + E.length = W.l.length := by rw [hspl, List.length_append]
    rw [List.length_map] at HO HDJ HA ⊢
    have HK := Lib.hid hA.kept
    have HDONE : Hid ((∀ x ∈ E, lim < x.at_) → due lim W.l = D ∧ rest lim W.l = E) := Lib.hid fun hE => by rw [hspl]; exact due_app hle hE
    have HSE : Hid (E.Pairwise Tm.lt) := Lib.hid (by have := HS.out; rw [hspl, List.pairwise_append] at this; exact this.2.1)
    have HSPL := Lib.hid (And.intro hspl hle)
    clear hA hdw hfr hdj hspl hle
    have FIN : Hid ((∀ x ∈ E, lim < x.at_) → OwnD wr w.heap.size (.slice p6 D.length c6) ((due lim W.l).map Tm.fd) ∧ ∃ vL' v4', DW wr base db vL' rb v1 v2 v3 v4' W' ∧ Kept (DP db vL rb v1 v2 v3 v4) w wr ∧ (∀ b, DP db vL' rb v1 v2 v3 v4' b → DP db vL rb v1 v2 v3 v4 b ∨ w.heap.size ≤ b) ∧ ∀ b, (Value.slice p6 D.length c6).ownBlock = some b → ¬ DP db vL' rb v1 v2 v3 v4' b) := Lib.hid fun hE => by
      obtain ⟨q1, q2⟩ := HDONE.out hE
      refine ⟨by rw [q1]; exact HO.out, vL', v4', ?_, HK.out, HFR.out, HDJ.out⟩
      rw [← HW2.out, q1, q2]
      exact HDW.out
    have c2 := HDW.out.hd.get (j := 2) rfl
    have cl := HDW.out.hd.lt
    cases E with
    | nil =>
      obtain ⟨pE, cE, rfl⟩ := HDW.out.rows.len
      simp only [List.length_nil] at c2
      have FX := Lib.hid (FIN.out (fun x hx => by simp at hx))
      clear FIN HDONE HSE
      go_wp2_with fail
      go_ret2
      exact ⟨.slice p6 D.length c6, rfl, FX.out⟩
    | cons x r =>
      obtain ⟨b0, off0, cE, rfl, ⟨a0, a1, a2⟩, bl, hcap⟩ := tm_at HDW.out.rows (k := 0) (x := x) rfl
      rw [Nat.zero_mul, Nat.add_zero] at a0 a1 a2
      by_cases hx : x.at_ ≤ lim
      · have i1 : decide (x.at_ ≤ lim) = true := by simpa using hx
        have i2 : (0 : Int) < ((x :: r).length : Int) := by simp only [List.length_cons]; omega
        obtain ⟨n, hn⟩ : ∃ n, (x :: r).length = n := ⟨_, rfl⟩
        have hn1 : 1 ≤ n := by rw [← hn]; simp
        have HNR : Hid (r.length = n - 1 ∧ n ≤ cE) := Lib.hid ⟨by rw [← hn]; simp, by rw [← hn]; exact hcap⟩
        rw [hn] at i2 c2 HDW HFR HDJ
        clear hn FIN HDONE
        have HLD : Hid (D.length ≤ 1000000) := Lib.hid (by omega)
        have HOD := HO
        unfold OwnD at HOD
        rw [List.length_map] at HOD
        have HNB : Hid (∀ b, (Value.slice p6 D.length c6).ownBlock = some b → b ≠ b0 ∧ b ≠ db) := Lib.hid fun b q => ⟨fun e => HDJ.out b q (.inr (.inl (by rw [e]; rfl))), fun e => HDJ.out b q (.inl e)⟩
        have HSZ : Hid (w.heap.size ≤ wr.heap.size) := Lib.hid HK.out.size
        have HS0 : Hid (∀ V, Kept (fun _ => False) wr V → (V.cell? ⟨db, 2, none⟩ = some (.slice (some ⟨b0, off0, none⟩) n cE) ∧ V.cell? ⟨b0, off0, none⟩ = some (.int .i64 x.at_) ∧ V.cell? ⟨b0, off0 + 1, none⟩ = some (.int .i64 x.id) ∧ b0 < V.heap.size ∧ db < V.heap.size) ∧ V.ownsRow w.heap.size 115 2 (.slice p6 D.length c6) D.length (cellsL fdC (D.map Tm.fd)) ∧ w.heap.size ≤ V.heap.size) := Lib.hid fun V K' => ⟨⟨(K'.cell (a := ⟨db, 2, none⟩) cl (fun h => h)).trans c2, (K'.cell (a := ⟨b0, off0, none⟩) bl (fun h => h)).trans a0, (K'.cell (a := ⟨b0, off0 + 1, none⟩) bl (fun h => h)).trans a1, Nat.lt_of_lt_of_le bl K'.size, Nat.lt_of_lt_of_le cl K'.size⟩, ownsRow_kept HOD.out K' (fun _ _ _ h => h), Nat.le_trans HSZ.out K'.size⟩
        have HS1 : Hid (∀ V w5 g, Kept (fun _ => False) wr V → Kept (fun b => (Value.slice p6 D.length c6).ownBlock = some b) V w5 → ((Value.slice p6 D.length c6).ownBlock = some g ∨ V.heap.size ≤ g) → (w5.cell? ⟨db, 2, none⟩ = some (.slice (some ⟨b0, off0, none⟩) n cE) ∧ w5.cell? ⟨b0, off0, none⟩ = some (.int .i64 x.at_) ∧ w5.cell? ⟨b0, off0 + 1, none⟩ = some (.int .i64 x.id) ∧ b0 < w5.heap.size ∧ db < w5.heap.size) ∧ Kept (fun b => (Value.slice p6 D.length c6).ownBlock = some b) wr w5 ∧ ((Value.slice p6 D.length c6).ownBlock = some g ∨ wr.heap.size ≤ g)) := Lib.hid fun V w5 g k1 k2 k3 => by
          have kk : Kept (fun b => (Value.slice p6 D.length c6).ownBlock = some b) wr w5 := (k1.mono (fun _ _ h => h.elim)).trans k2 (fun _ _ h => h)
          exact ⟨⟨(kk.cell (a := ⟨db, 2, none⟩) cl (fun e => (HNB.out db e).2 rfl)).trans c2, (kk.cell (a := ⟨b0, off0, none⟩) bl (fun e => (HNB.out b0 e).1 rfl)).trans a0, (kk.cell (a := ⟨b0, off0 + 1, none⟩) bl (fun e => (HNB.out b0 e).1 rfl)).trans a1, Nat.lt_of_lt_of_le bl kk.size, Nat.lt_of_lt_of_le cl kk.size⟩, kk, k3.imp (fun h => h) (fun h => Nat.le_trans k1.size h)⟩
        go_wp2_with fail
        clear a0 a1 a2 c2
        go_region_held3 (fun V => V.cell? ⟨db, 2, none⟩ = some (.slice (some ⟨b0, off0, none⟩) n cE) ∧ V.cell? ⟨b0, off0, none⟩ = some (.int .i64 x.at_) ∧ V.cell? ⟨b0, off0 + 1, none⟩ = some (.int .i64 x.id) ∧ b0 < V.heap.size ∧ db < V.heap.size) (first | exact HS2.out.1 | exact (HS0.out _ (by repeat (first | exact Kept.refl _ _ | refine Kept.alloc ?_ _ | refine Kept.drew ?_))).1) (first | (refine step_one rfl (.tmp 43) (.tmp 59) rfl el68 w.heap.size _ D.length _ _ (fdC x.fd) rfl rfl (HS0.out _ (by repeat (first | exact Kept.refl _ _ | refine Kept.alloc ?_ _ | refine Kept.drew ?_))).2.1 rfl (fun j u hj => by (first | rw [World.cell?_alloc_at _ _ _ _ rfl] | rw [drew_cell, World.cell?_alloc_at _ _ _ _ rfl]); have hj2 := hj; simp only [fdC, Tm.fd] at hj2; simpa using hj2) (fdC_one _) HLD.out (by decide) (HS0.out _ (by repeat (first | exact Kept.refl _ _ | refine Kept.alloc ?_ _ | refine Kept.drew ?_))).2.2 ?_; intro g2 cg w5 hown5 K5 hor hg5; have HS2 := Lib.hid (HS1.out _ w5 g2 (by repeat (first | exact Kept.refl _ _ | refine Kept.alloc ?_ _ | refine Kept.drew ?_)) K5 hor); have HW5 := Lib.hid hown5; clear hown5 K5 hor hg5))
        have HD5 : Hid (DW w5 base db (.slice (some ⟨b0, off0, none⟩) n cE) rb v1 v2 v3 v4' { W with now := lim, a := freeAll W.a D, l := x :: r }) := Lib.hid (HDW.out.kept HS2.out.2.1 (fun b q s => HDJ.out b s q))
        have HOKF := Lib.hid (HOK.out.freeAll HSPL.out.1)
        obtain ⟨a2, e2, hfree⟩ : ∃ a2 e2, (freeAll W.a D).free x.h = (a2, e2) := ⟨_, _, rfl⟩
        have HRF : Hid (∀ V, Kept (fun _ => False) w5 V → Calls Tryd.prog 57 #[.pointer (some ⟨rb, 0, none⟩), .int .i64 x.h] V fun e w' => e = .returned (.int .i64 e2) ∧ RPost V w' base rb v1 v2 v3 v4' a2) := Lib.hid fun V K => rfree_c (HD5.out.same K).ar HOKF.out.inv.toAOk hfree
        have HFA : Hid (a2 = freeAll W.a (D ++ [x])) := Lib.hid (by rw [freeAll_append, freeAll_cons, hfree]; rfl)
        have HS5 : Hid (∀ V, Kept (fun _ => False) w5 V → V.cell? ⟨db, 2, none⟩ = some (.slice (some ⟨b0, off0, none⟩) n cE) ∧ V.cell? ⟨db, 3, none⟩ = some (.pointer (some ⟨rb, 0, none⟩)) ∧ V.cell? ⟨b0, off0 + 2, none⟩ = some (.int .i64 x.h) ∧ b0 < V.heap.size ∧ db < V.heap.size) := Lib.hid fun V K => by
          have hh := HD5.out.same K
          obtain ⟨b1, o1, c1', hv, ⟨-, -, q2⟩, ql, -⟩ := tm_at hh.rows (k := 0) (x := x) rfl
          injection hv with hv _ _
          injection hv with hv
          injection hv with hv1 hv2 _
          subst hv1 hv2
          rw [Nat.zero_mul, Nat.add_zero] at q2
          exact ⟨hh.hd.get (j := 2) rfl, hh.hd.get (j := 3) rfl, q2, ql, hh.hd.lt⟩
        clear hfree HS0 HS1
        go_wp2_with fail
        go_region_held3 (fun V => V.cell? ⟨db, 2, none⟩ = some (.slice (some ⟨b0, off0, none⟩) n cE) ∧ V.cell? ⟨db, 3, none⟩ = some (.pointer (some ⟨rb, 0, none⟩)) ∧ V.cell? ⟨b0, off0 + 2, none⟩ = some (.int .i64 x.h) ∧ b0 < V.heap.size ∧ db < V.heap.size) (first | exact HS6.out | exact HS5.out _ (by repeat (first | exact Kept.refl _ _ | refine Kept.drew ?_))) (first | (go_at_call 57; refine (HRF.out _ (by repeat (first | exact Kept.refl _ _ | refine Kept.drew ?_))).mono ?_; rintro e w6 ⟨rfl, hrp⟩; obtain ⟨v5, HS6, HT6⟩ := free_turn HD5.out hrp (by repeat (first | exact Kept.refl _ _ | refine Kept.drew ?_)) rfl; clear hrp))
        have c2 := HS6.out.1
        have z2 : w6.frozen? ⟨db, 2, none⟩ = false := HT6.out.1.hd.fz _
        have cl6 := HS6.out.2.2.2.2
        have hn2 : n ≤ cE := HNR.out.2
        have i4 : (1 : Int) ≤ (n : Int) := by omega
        have i5 : (n : Int) ≤ (cE : Int) := by omega
        have hrw : Rows tmC 3 w6 (.slice (some ⟨b0, off0, none⟩) n cE) (x :: r) := HT6.out.1.rows
        have HROW : Hid (∀ p, (cE = 1 ∨ p = some ⟨b0, off0 + 1 * 3, none⟩) → Rows tmC 3 w6 (.slice p (n - 1) (cE - 1)) r) := Lib.hid fun p q => by
          rcases q with q | q
          · have hr0 : r = [] := List.eq_nil_of_length_eq_zero (by have := HNR.out; omega)
            exact .inl ⟨p, cE - 1, by have := HNR.out.1; rw [hr0] at this; simp at this; rw [← this], hr0⟩
          · rw [q]; exact hrw.drop (k := 1) (by simp)
        clear hrw
        have HXL : Hid (x.at_ ≤ lim) := Lib.hid hx
        have HNX : Hid (∀ v7 : Value, Rows tmC 3 w6 v7 r → (∀ b, v7.ownBlock = some b → b = b0) → DAdv w (w6.setCell ⟨db, 2, none⟩ v7) base db vL rb v1 v2 v3 v4 W lim (.slice (some ⟨g2, 0, none⟩) (D.length + 1) cg) (D ++ [x]) r) := Lib.hid fun v7 hr hb => by
          refine DAdv.next HSPL.out.1 HSPL.out.2 HXL.out HK.out HFR.out HDJ.out (fun b q => (HDW.out.lt q).2) (fun b q => (ownsRow_block HOD.out q).1) HS2.out.2.1 HS2.out.2.2 ?_ ?_ HT6.out.2.1 HT6.out.2.2 hr hb
          · unfold OwnD
            rw [List.map_append, List.map_cons, List.map_nil, List.length_append, List.length_map, cellsL_append, cellsL_one]
            exact HW5.out
          · rw [← HFA.out]; exact HT6.out.1
        have HLL : Hid (D.length + (r.length + 1) = W.l.length) := Lib.hid (by rw [HSPL.out.1]; simp)
        by_cases hc1 : cE = 1
        · obtain rfl : n = 1 := by omega
          subst hc1
          go_wp2_with fail
          go_roundw
          case rel => exact ⟨D ++ [x], r, HNX.out _ (HROW.out _ (.inl rfl)) (fun b q => by injection q with q; exact q.symm)⟩
          case measure => have hll2 := HLL.out; simp [slLen]; omega
        · go_wp2_with fail
          go_roundw
          case rel => exact ⟨D ++ [x], r, HNX.out _ (HROW.out _ (.inr rfl)) (fun b q => by injection q with q; exact q.symm)⟩
          case measure => have hll2 := HLL.out; simp [slLen]; omega
      · have i1 : decide (x.at_ ≤ lim) = false := by simpa using hx
        have FX := Lib.hid (FIN.out (fun y hy => by
          have h1 := HSE.out
          rw [List.pairwise_cons] at h1
          rcases List.mem_cons.1 hy with rfl | q
          · omega
          · have := h1.1 y q
            unfold Tm.lt at this
            omega))
        have i2 : (0 : Int) < ((x :: r).length : Int) := by simp only [List.length_cons]; omega
        clear FIN HDONE HSE
        go_wp2_with fail
        go_ret2
        exact ⟨.slice p6 D.length c6, rfl, FX.out⟩
end Go.Proofs.YtjlcchjcppkbjaaDoor
/- Add of the document's wheel. -/
namespace Go.Proofs.YtjlcchjcppkbjaaDoor
open Go.RowKit
variable {w w' : World} {base db rb : Nat} {vL v1 v2 v3 v4 : Value} {W W' : Wh}
theorem due_at {l : List Tm} {lim : Int} (hs : l.Pairwise Tm.lt) {i : Nat} (h1 : ∀ (j : Nat) (t : Tm), j < i → l[j]? = some t → t.at_ ≤ lim) (h2 : ∀ t, l[i]? = some t → lim < t.at_) : l.take i = due lim l ∧ l.drop i = rest lim l := by
  have hD : ∀ x ∈ l.take i, x.at_ ≤ lim := fun x hx => by
    obtain ⟨j, hj⟩ := List.getElem?_of_mem hx
    have hji : j < i := by have := (List.getElem?_eq_some_iff.1 hj).1; rw [List.length_take] at this; omega
    rw [List.getElem?_take_of_lt hji] at hj
    exact h1 j x hji hj
  have hE : ∀ x ∈ l.drop i, lim < x.at_ := fun x hx => by
    obtain ⟨j, hj⟩ := List.getElem?_of_mem hx
    rw [List.getElem?_drop] at hj
    obtain ⟨q1, q2⟩ := List.getElem?_eq_some_iff.1 hj
    have hil : i < l.length := by omega
    have h3 := h2 l[i] (List.getElem?_eq_getElem hil)
    by_cases e : j = 0
    · subst e
      simp only [Nat.add_zero] at q2
      rw [← q2]; exact h3
    · have h4 := List.pairwise_iff_getElem.1 hs i (i + j) hil q1 (by omega)
      rw [q2] at h4
      unfold Tm.lt at h4
      omega
  have := due_app hD hE
  rw [List.take_append_drop] at this
  exact ⟨this.1.symm, this.2.symm⟩
set_option maxRecDepth 100000 in
set_option maxHeartbeats 2000000 in
theorem dadd_c (h : DW w base db vL rb v1 v2 v3 v4 W) (ok : WOk W) (hll : W.l.length ≤ 5000) {at_ id hd er : Int} (hp : W.add at_ id = (W', hd, er)) :
    Calls Tryd.prog 28 #[.pointer (some ⟨db, 0, none⟩), .int .i64 at_, .int .i64 id] w fun e w' => e = .returned (.tuple #[.int .i64 hd, .int .i64 er]) ∧ DPost w w' base db vL rb v1 v2 v3 v4 W' := by
  have HD := Lib.hid h
  have HV := Lib.hid (dvalid_c h)
  have HS := Lib.hid ok.sorted
  obtain ⟨pL, cL, rfl⟩ := h.rows.len
  have c1 := h.hd.get (j := 1) rfl
  have cl := h.hd.lt
  unfold Wh.add at hp
  have hN : NEVER = 4611686018427387904 := rfl
  rw [hN] at hp
  by_cases g1 : at_ < 0 ∨ 4611686018427387904 < at_
  · rw [if_pos g1] at hp
    injection hp with e1 e2
    injection e2 with e2 e3
    subst e1 e2 e3
    clear h ok hN
    rcases g1 with g1 | g1
    · have d1 : decide (at_ < 0) = true := by simpa using g1
      clear g1
      go_enter Tryd.func28, Tryd.ntmps28
      go_wp2_with (go_at_call 55; refine HV.out.mono ?_; rintro e w' ⟨rfl, hww⟩; obtain rfl := hww.symm)
      go_ret2
      exact ⟨rfl, HD.out.post (Kept.refl _ _)⟩
    · have d1 : decide (at_ < 0) = false := by simp only [decide_eq_false_iff_not]; omega
      have d2 : decide (4611686018427387904 < at_) = true := by simpa using g1
      clear g1
      go_enter Tryd.func28, Tryd.ntmps28
      go_wp2_with (go_at_call 55; refine HV.out.mono ?_; rintro e w' ⟨rfl, hww⟩; obtain rfl := hww.symm)
      go_ret2
      exact ⟨rfl, HD.out.post (Kept.refl _ _)⟩
  rw [if_neg g1] at hp
  have d1 : decide (at_ < 0) = false := by simp only [decide_eq_false_iff_not]; omega
  have d2 : decide (4611686018427387904 < at_) = false := by simp only [decide_eq_false_iff_not]; omega
  by_cases g2 : at_ ≤ W.now
  · rw [if_pos g2] at hp
    injection hp with e1 e2
    injection e2 with e2 e3
    subst e1 e2 e3
    have d3 : decide (at_ ≤ W.now) = true := by simpa using g2
    clear h ok hN g1 g2
    go_enter Tryd.func28, Tryd.ntmps28
    go_wp2_with (go_at_call 55; refine HV.out.mono ?_; rintro e w' ⟨rfl, hww⟩; obtain rfl := hww.symm)
    go_ret2
    exact ⟨rfl, HD.out.post (Kept.refl _ _)⟩
  rw [if_neg g2] at hp
  have d3 : decide (at_ ≤ W.now) = false := by simpa using g2
  have c3 := h.hd.get (j := 3) rfl
  obtain ⟨a', hd', er', hput⟩ : ∃ a' hd' er', W.a.put id = (a', hd', er') := ⟨_, _, _, rfl⟩
  have HF := Lib.hid (rput_c h.ar ok.inv.toAOk hput)
  rcases put_spec ok.inv hput with ⟨rfl, P⟩ | ⟨rfl, rfl, rfl, -⟩
  · rw [hput, if_pos rfl] at hp
    injection hp with e1 e2
    injection e2 with e2 e3
    have HW2 : Hid (W'.now = W.now ∧ W'.a = a' ∧ W'.l = ins ⟨at_, id, hd', W.seq + 1⟩ W.l) := Lib.hid (by rw [← e1]; exact ⟨rfl, rfl, rfl⟩)
    subst e2 e3
    clear h ok hN g1 g2 e1 hput P
    go_enter Tryd.func28, Tryd.ntmps28
    go_wp2_with (first | (go_at_call 55; refine HV.out.mono ?_; rintro e w' ⟨rfl, hww⟩; obtain rfl := hww.symm) | (go_at_call 56; refine HF.out.mono ?_; rintro e w1 ⟨rfl, v4', I, K1, hv4⟩; have HD1 := Lib.hid (HD.out.turn I K1 hv4); have HK1 := Lib.hid (And.intro K1 hv4); clear I K1 hv4 c1 c3 cl))
    go_loopw [10] (fun s10 wr => ∃ i : Nat, i ≤ W.l.length ∧ s10 = .int .i64 i ∧ (∀ (j : Nat) (t : Tm), j < i → W.l[j]? = some t → t.at_ ≤ at_) ∧ wr = w1) (fun s10 _ => W.l.length - (intOf s10).toNat)
    case atStart => exact ⟨0, Nat.zero_le _, rfl, (fun j t hj => by omega), rfl⟩
    case round =>
      obtain ⟨i, hi, rfl, hno, hww⟩ := hrel
      obtain rfl := hww.symm
      have HNO := Lib.hid hno
      have c2 := HD1.out.hd.get (j := 2) rfl
      have cl := HD1.out.hd.lt
      clear hno hww
      by_cases hgo : i < W.l.length ∧ ∀ t, W.l[i]? = some t → t.at_ ≤ at_
      · obtain ⟨hlt, hat⟩ := hgo
        obtain ⟨t, ht⟩ : ∃ t, W.l[i]? = some t := ⟨_, List.getElem?_eq_getElem hlt⟩
        obtain ⟨b0, off0, c0, hv, ⟨a0, -, -⟩, bl, hcap⟩ := tm_at HD1.out.rows ht
        injection hv with hv hvn hc
        clear hvn
        subst hv hc
        have i1 : (0 : Int) ≤ (i : Int) := by omega
        have i2 : (i : Int) < (W.l.length : Int) := by omega
        have i3 : decide (t.at_ ≤ at_) = true := by simpa using hat t ht
        have HN : Hid (∀ (j : Nat) (t' : Tm), j < i + 1 → W.l[j]? = some t' → t'.at_ ≤ at_) := Lib.hid fun j t' hj ht' => by
          by_cases e : j = i
          · subst e; exact hat t' ht'
          · exact HNO.out j t' (by omega) ht'
        clear ht hat
        go_wp2_with fail
        go_roundw
        case rel => exact ⟨i + 1, by omega, by go_num, HN.out, trivial⟩
        case measure => simp [intOf]; omega
      · by_cases hlt : i < W.l.length
        · obtain ⟨t, ht⟩ : ∃ t, W.l[i]? = some t := ⟨_, List.getElem?_eq_getElem hlt⟩
          have hat : at_ < t.at_ := by
            by_cases q : t.at_ ≤ at_
            · exact absurd ⟨hlt, fun t' ht' => by rw [ht] at ht'; injection ht' with ht'; rw [← ht']; exact q⟩ hgo
            · omega
          have HDUE := Lib.hid (due_at HS.out HNO.out (fun t' ht' => by rw [ht] at ht'; injection ht' with ht'; rw [← ht']; exact hat))
          obtain ⟨b0, off0, c0, hv, ⟨a0, -, -⟩, bl, hcap⟩ := tm_at HD1.out.rows ht
          injection hv with hv hvn hc
          clear hvn
          subst hv hc
          replace hcap : W.l.length ≤ cL := hcap
          have HLT : Hid ((W.l.take i).length = i) := Lib.hid (by rw [List.length_take]; omega)
          have HC : Hid (∀ V, Kept (fun _ => False) w1 V → V.cell? ⟨db, 2, none⟩ = some (.slice (some ⟨b0, off0, none⟩) W.l.length cL) ∧ V.frozen? ⟨db, 2, none⟩ = false ∧ db < V.heap.size) := Lib.hid fun V K => ⟨(HD1.out.same K).hd.get (j := 2) rfl, (HD1.out.same K).hd.fz _, (HD1.out.same K).hd.lt⟩
          have hrw : Rows tmC 3 w1 (.slice (some ⟨b0, off0, none⟩) W.l.length cL) W.l := HD1.out.rows
          have HTK : Hid (∀ V, Kept (fun _ => False) w1 V → Rows tmC 3 V (.slice (some ⟨b0, off0, none⟩) i cL) (W.l.take i)) := Lib.hid fun V K => (hrw.same K).take hi
          have HDR : Hid (∀ V, Kept (fun _ => False) w1 V → Rows tmC 3 V (.slice (some ⟨b0, off0 + i * 3, none⟩) (W.l.length - i) (cL - i)) (W.l.drop i)) := Lib.hid fun V K => (hrw.same K).drop (by omega)
          have hdl : (W.l.drop i).length = W.l.length - i := List.length_drop
          have i1 : (0 : Int) ≤ (i : Int) := by omega
          have i2 : (i : Int) < (W.l.length : Int) := by omega
          have i3 : decide (t.at_ ≤ at_) = false := by simp only [decide_eq_false_iff_not]; omega
          have i4 : (i : Int) ≤ (cL : Int) := by omega
          have i5 : (i : Int) ≤ (W.l.length : Int) := by omega
          have i6 : ¬ (cL = i) := by omega
          have i7 : (W.l.length : Int) ≤ (cL : Int) := by omega
          clear ht hat hgo hrw
          obtain ⟨n3, hn3⟩ : ∃ n3, i + 1 + (W.l.drop i).length = n3 := ⟨_, rfl⟩
          have HN3 := Lib.hid hn3
          clear hn3
          go_wp2_with (first | (at_builtin; refine wpList_appRows el109 tmC_len tmC_one rfl (.tmp 76) (.tmp 82) rfl w1.heap.size _ _ (i + 1) _ (W.l.drop i) rfl rfl HO6.out (HDR.out _ HK6.out.1) (by unfold maxLen; omega) (by omega) HK6.out.1.size ?_; intro v7 w7 hown7 K7 hb7; rw [HN3.out] at hown7; obtain ⟨p7, c7, rfl⟩ := own_vS hown7; have HO7 := Lib.hid hown7; have HK7 := Lib.hid (after_own HK6.out.1 HK6.out.2 (Kept.refl _ _) K7 hb7); have s2 := (HC.out w7 HK7.out.1).1; have s3 := (HC.out w7 HK7.out.1).2.1; have s4 := (HC.out w7 HK7.out.1).2.2; clear hown7 K7 hb7) | (at_builtin; refine wpList_appN el109 rfl (.tmp 68) (.tmp 73) rfl (news := [.int .i64 at_, .int .i64 id, .int .i64 hd']) w1.heap.size _ i 1 _ rfl HO5.out rfl rfl (by decide) (tmC_one ⟨at_, id, hd', 0⟩) (by unfold maxLen; omega) (by omega) HK5.out.1.size ?_; intro g6 c6 w6 hown6 K6 hor; have HK6 := Lib.hid (after_own (v7 := .slice (some ⟨g6, 0, none⟩) (i + 1) c6) HK5.out.1 HK5.out.2 (Kept.refl _ _) K6 (fun b q => by injection q with q; simp only at q; subst q; exact hor)); have HO6 := Lib.hid hown6; have m2 := (HC.out w6 HK6.out.1).1; have m4 := (HC.out w6 HK6.out.1).2.2; clear hown6 K6 hor) | (at_builtin; refine wpList_appRows el109 tmC_len tmC_one rfl (.tmp 60) (.tmp 66) rfl w1.heap.size _ _ 0 [] (W.l.take i) rfl rfl (own_empty w1 114 3) (HTK.out _ ((Kept.refl _ _).alloc _)) (by rw [HLT.out]; unfold maxLen; omega) (by rw [HLT.out]; omega) (by simp) ?_; intro v5 w5 hown5 K5 hb5; rw [HLT.out, Nat.zero_add] at hown5; obtain ⟨p5, c5, rfl⟩ := own_vS hown5; have HO5 := Lib.hid hown5; have HK5 := Lib.hid ((heM (Nat.le_refl w1.heap.size) _ w1 (w1.alloc (.cells #[] 114)) (Kept.refl _ _) (Kept.refl _ _) rfl).2 _ w5 K5 hb5); have k2 := (HC.out w5 HK5.out.1).1; have k4 := (HC.out w5 HK5.out.1).2.2; clear hown5 K5 hb5))
          go_ret2
          have HN7 : OwnM w7 w1.heap.size (.slice p7 n3 c7) (W.l.take i ++ [⟨at_, id, hd', W.seq + 1⟩] ++ W.l.drop i) := by
            have h1 := HO7.out
            unfold OwnM
            rw [cellsL_append, cellsL_append, cellsL_one, List.length_append, List.length_append, HLT.out, List.length_singleton, HN3.out]
            exact h1
          have hF := HD1.out.store (W' := W') HK7.out.1 HN7.rows (fun b q => .inl ⟨HK7.out.2 b q, (ownsRow_block HN7 q).2⟩) HW2.out.1 HW2.out.2.1 (by rw [HW2.out.2.2, HDUE.out.1, HDUE.out.2]; simp [ins])
          refine ⟨rfl, _, v4', hF, ?_, fun b q => ?_⟩
          · exact ((HK1.out.1.mono fun b _ q => .inr (.inr q)).trans ((HK7.out.1.mono fun b _ q => q.elim)) (fun _ _ h => h)).setCell _ _ (fun _ => .inl rfl)
          · rcases q with q | q | q
            · exact .inl (.inl q)
            · exact .inr (Nat.le_trans HK1.out.1.size (HK7.out.2 b q))
            · exact fr_new HK1.out.2 q
        · obtain rfl : i = W.l.length := by omega
          have HDUE := Lib.hid (due_at HS.out HNO.out (fun t' ht' => by rw [List.getElem?_eq_none (Nat.le_refl _)] at ht'; cases ht'))
          have hcap : W.l.length ≤ cL := by
            rcases Nat.eq_zero_or_pos W.l.length with q | q
            · omega
            · obtain ⟨b, off, c, hv, hcap, -, -⟩ := HD1.out.rows.pos q
              injection hv with _ _ hc
              rw [hc]; exact hcap
          have HLT : Hid ((W.l.take W.l.length).length = W.l.length) := Lib.hid (by rw [List.length_take]; omega)
          have HC : Hid (∀ V, Kept (fun _ => False) w1 V → V.cell? ⟨db, 2, none⟩ = some (.slice pL W.l.length cL) ∧ V.frozen? ⟨db, 2, none⟩ = false ∧ db < V.heap.size) := Lib.hid fun V K => ⟨(HD1.out.same K).hd.get (j := 2) rfl, (HD1.out.same K).hd.fz _, (HD1.out.same K).hd.lt⟩
          have hrw : Rows tmC 3 w1 (.slice pL W.l.length cL) W.l := HD1.out.rows
          have HTK : Hid (∀ V, Kept (fun _ => False) w1 V → Rows tmC 3 V (.slice pL W.l.length cL) (W.l.take W.l.length)) := Lib.hid fun V K => (hrw.same K).take (Nat.le_refl _)
          have hdn : W.l.drop W.l.length = [] := List.drop_length
          have HDR : Hid (∀ a c V, Rows tmC 3 V (.slice a 0 c) (W.l.drop W.l.length)) := Lib.hid fun a c V => .inl ⟨a, c, rfl, hdn⟩
          have hdl : (W.l.drop W.l.length).length = 0 := by rw [hdn]; rfl
          have i4 : (W.l.length : Int) ≤ (cL : Int) := by omega
          have i5 : (0 : Int) ≤ (W.l.length : Int) := by omega
          clear hgo hrw hdn hlt
          by_cases i6 : cL = W.l.length
          · subst i6
            obtain ⟨n3, hn3⟩ : ∃ n3, W.l.length + 1 + (W.l.drop W.l.length).length = n3 := ⟨_, rfl⟩
            have HN3 := Lib.hid hn3
            clear hn3
            go_wp2_with (first | (at_builtin; refine wpList_appRows el109 tmC_len tmC_one rfl (.tmp 76) (.tmp 82) rfl w1.heap.size _ _ (W.l.length + 1) _ (W.l.drop W.l.length) rfl rfl HO6.out (HDR.out _ _ _) (by unfold maxLen; omega) (by omega) HK6.out.1.size ?_; intro v7 w7 hown7 K7 hb7; rw [HN3.out] at hown7; obtain ⟨p7, c7, rfl⟩ := own_vS hown7; have HO7 := Lib.hid hown7; have HK7 := Lib.hid (after_own HK6.out.1 HK6.out.2 (Kept.refl _ _) K7 hb7); have s2 := (HC.out w7 HK7.out.1).1; have s3 := (HC.out w7 HK7.out.1).2.1; have s4 := (HC.out w7 HK7.out.1).2.2; clear hown7 K7 hb7) | (at_builtin; refine wpList_appN el109 rfl (.tmp 68) (.tmp 73) rfl (news := [.int .i64 at_, .int .i64 id, .int .i64 hd']) w1.heap.size _ W.l.length 1 _ rfl HO5.out rfl rfl (by decide) (tmC_one ⟨at_, id, hd', 0⟩) (by unfold maxLen; omega) (by omega) HK5.out.1.size ?_; intro g6 c6 w6 hown6 K6 hor; have HK6 := Lib.hid (after_own (v7 := .slice (some ⟨g6, 0, none⟩) (W.l.length + 1) c6) HK5.out.1 HK5.out.2 (Kept.refl _ _) K6 (fun b q => by injection q with q; simp only at q; subst q; exact hor)); have HO6 := Lib.hid hown6; have m2 := (HC.out w6 HK6.out.1).1; have m4 := (HC.out w6 HK6.out.1).2.2; clear hown6 K6 hor) | (at_builtin; refine wpList_appRows el109 tmC_len tmC_one rfl (.tmp 60) (.tmp 66) rfl w1.heap.size _ _ 0 [] (W.l.take W.l.length) rfl rfl (own_empty w1 114 3) (HTK.out _ ((Kept.refl _ _).alloc _)) (by rw [HLT.out]; unfold maxLen; omega) (by rw [HLT.out]; omega) (by simp) ?_; intro v5 w5 hown5 K5 hb5; rw [HLT.out, Nat.zero_add] at hown5; obtain ⟨p5, c5, rfl⟩ := own_vS hown5; have HO5 := Lib.hid hown5; have HK5 := Lib.hid ((heM (Nat.le_refl w1.heap.size) _ w1 (w1.alloc (.cells #[] 114)) (Kept.refl _ _) (Kept.refl _ _) rfl).2 _ w5 K5 hb5); have k2 := (HC.out w5 HK5.out.1).1; have k4 := (HC.out w5 HK5.out.1).2.2; clear hown5 K5 hb5))
            go_ret2
            have HN7 : OwnM w7 w1.heap.size (.slice p7 n3 c7) (W.l.take W.l.length ++ [⟨at_, id, hd', W.seq + 1⟩] ++ W.l.drop W.l.length) := by
              have h1 := HO7.out
              unfold OwnM
              rw [cellsL_append, cellsL_append, cellsL_one, List.length_append, List.length_append, HLT.out, List.length_singleton, HN3.out]
              exact h1
            have hF := HD1.out.store (W' := W') HK7.out.1 HN7.rows (fun b q => .inl ⟨HK7.out.2 b q, (ownsRow_block HN7 q).2⟩) HW2.out.1 HW2.out.2.1 (by rw [HW2.out.2.2, HDUE.out.1, HDUE.out.2]; simp [ins])
            refine ⟨rfl, _, v4', hF, ?_, fun b q => ?_⟩
            · exact ((HK1.out.1.mono fun b _ q => .inr (.inr q)).trans ((HK7.out.1.mono fun b _ q => q.elim)) (fun _ _ h => h)).setCell _ _ (fun _ => .inl rfl)
            · rcases q with q | q | q
              · exact .inl (.inl q)
              · exact .inr (Nat.le_trans HK1.out.1.size (HK7.out.2 b q))
              · exact fr_new HK1.out.2 q
          · obtain ⟨n3, hn3⟩ : ∃ n3, W.l.length + 1 + (W.l.drop W.l.length).length = n3 := ⟨_, rfl⟩
            have HN3 := Lib.hid hn3
            clear hn3
            go_wp2_with (first | (at_builtin; refine wpList_appRows el109 tmC_len tmC_one rfl (.tmp 76) (.tmp 82) rfl w1.heap.size _ _ (W.l.length + 1) _ (W.l.drop W.l.length) rfl rfl HO6.out (HDR.out _ _ _) (by unfold maxLen; omega) (by omega) HK6.out.1.size ?_; intro v7 w7 hown7 K7 hb7; rw [HN3.out] at hown7; obtain ⟨p7, c7, rfl⟩ := own_vS hown7; have HO7 := Lib.hid hown7; have HK7 := Lib.hid (after_own HK6.out.1 HK6.out.2 (Kept.refl _ _) K7 hb7); have s2 := (HC.out w7 HK7.out.1).1; have s3 := (HC.out w7 HK7.out.1).2.1; have s4 := (HC.out w7 HK7.out.1).2.2; clear hown7 K7 hb7) | (at_builtin; refine wpList_appN el109 rfl (.tmp 68) (.tmp 73) rfl (news := [.int .i64 at_, .int .i64 id, .int .i64 hd']) w1.heap.size _ W.l.length 1 _ rfl HO5.out rfl rfl (by decide) (tmC_one ⟨at_, id, hd', 0⟩) (by unfold maxLen; omega) (by omega) HK5.out.1.size ?_; intro g6 c6 w6 hown6 K6 hor; have HK6 := Lib.hid (after_own (v7 := .slice (some ⟨g6, 0, none⟩) (W.l.length + 1) c6) HK5.out.1 HK5.out.2 (Kept.refl _ _) K6 (fun b q => by injection q with q; simp only at q; subst q; exact hor)); have HO6 := Lib.hid hown6; have m2 := (HC.out w6 HK6.out.1).1; have m4 := (HC.out w6 HK6.out.1).2.2; clear hown6 K6 hor) | (at_builtin; refine wpList_appRows el109 tmC_len tmC_one rfl (.tmp 60) (.tmp 66) rfl w1.heap.size _ _ 0 [] (W.l.take W.l.length) rfl rfl (own_empty w1 114 3) (HTK.out _ ((Kept.refl _ _).alloc _)) (by rw [HLT.out]; unfold maxLen; omega) (by rw [HLT.out]; omega) (by simp) ?_; intro v5 w5 hown5 K5 hb5; rw [HLT.out, Nat.zero_add] at hown5; obtain ⟨p5, c5, rfl⟩ := own_vS hown5; have HO5 := Lib.hid hown5; have HK5 := Lib.hid ((heM (Nat.le_refl w1.heap.size) _ w1 (w1.alloc (.cells #[] 114)) (Kept.refl _ _) (Kept.refl _ _) rfl).2 _ w5 K5 hb5); have k2 := (HC.out w5 HK5.out.1).1; have k4 := (HC.out w5 HK5.out.1).2.2; clear hown5 K5 hb5))
            go_ret2
            have HN7 : OwnM w7 w1.heap.size (.slice p7 n3 c7) (W.l.take W.l.length ++ [⟨at_, id, hd', W.seq + 1⟩] ++ W.l.drop W.l.length) := by
              have h1 := HO7.out
              unfold OwnM
              rw [cellsL_append, cellsL_append, cellsL_one, List.length_append, List.length_append, HLT.out, List.length_singleton, HN3.out]
              exact h1
            have hF := HD1.out.store (W' := W') HK7.out.1 HN7.rows (fun b q => .inl ⟨HK7.out.2 b q, (ownsRow_block HN7 q).2⟩) HW2.out.1 HW2.out.2.1 (by rw [HW2.out.2.2, HDUE.out.1, HDUE.out.2]; simp [ins])
            refine ⟨rfl, _, v4', hF, ?_, fun b q => ?_⟩
            · exact ((HK1.out.1.mono fun b _ q => .inr (.inr q)).trans ((HK7.out.1.mono fun b _ q => q.elim)) (fun _ _ h => h)).setCell _ _ (fun _ => .inl rfl)
            · rcases q with q | q | q
              · exact .inl (.inl q)
              · exact .inr (Nat.le_trans HK1.out.1.size (HK7.out.2 b q))
              · exact fr_new HK1.out.2 q
  · rw [hput, if_neg (show ¬ ((4 : Int) = 0) by decide)] at hp
    injection hp with e1 e2
    injection e2 with e2 e3
    subst e1 e2 e3
    clear h ok hN g1 g2 hput
    go_enter Tryd.func28, Tryd.ntmps28
    go_wp2_with (first | (go_at_call 55; refine HV.out.mono ?_; rintro e w' ⟨rfl, hww⟩; obtain rfl := hww.symm) | (go_at_call 56; refine HF.out.mono ?_; rintro e w1 ⟨rfl, v4', I, K1, hv4⟩; have HD1 := Lib.hid (HD.out.turn I K1 hv4); have HK1 := Lib.hid (And.intro K1 hv4); clear I K1 hv4 c1 c3 cl))
    go_ret2
    refine ⟨rfl, _, v4', HD1.out, HK1.out.1.mono fun b _ q => .inr (.inr q), fun b q => ?_⟩
    rcases q with q | q | q
    · exact .inl (.inl q)
    · exact .inl (.inr (.inl q))
    · exact fr_new HK1.out.2 q
end Go.Proofs.YtjlcchjcppkbjaaDoor
/- Cancel of the document's wheel. -/
namespace Go.Proofs.YtjlcchjcppkbjaaDoor
open Go.RowKit
variable {w w' : World} {base db rb : Nat} {vL v1 v2 v3 v4 : Value} {W W' : Wh}
set_option maxRecDepth 100000 in
set_option maxHeartbeats 2000000 in
theorem dcancel_c (h : DW w base db vL rb v1 v2 v3 v4 W) (ok : WOk W) (hll : W.l.length ≤ 5000) {hd er : Int} (hp : W.cancel hd = (W', er)) :
    Calls Tryd.prog 29 #[.pointer (some ⟨db, 0, none⟩), .int .i64 hd] w fun e w' => e = .returned (.int .i64 er) ∧ DPost w w' base db vL rb v1 v2 v3 v4 W' := by
  have HD := Lib.hid h
  have HOK := Lib.hid ok
  have HP := Lib.hid hp
  have HV := Lib.hid (dvalid_c h)
  obtain ⟨pL, cL, rfl⟩ := h.rows.len
  clear h ok hp
  go_enter Tryd.func29, Tryd.ntmps29
  go_wp2_with (go_at_call 55; refine HV.out.mono ?_; rintro e w' ⟨rfl, hww⟩; obtain rfl := hww.symm)
  go_loopw [5] (fun s5 wr => ∃ i : Nat, i ≤ W.l.length ∧ s5 = .int .i64 i ∧ (∀ (j : Nat) (t : Tm), j < i → W.l[j]? = some t → t.h ≠ hd) ∧ wr = w) (fun s5 _ => W.l.length - (intOf s5).toNat)
  case atStart => exact ⟨0, Nat.zero_le _, rfl, (fun j t hj => by omega), rfl⟩
  case round =>
    obtain ⟨i, hi, rfl, hno, hww⟩ := hrel
    obtain rfl := hww.symm
    have HNO := Lib.hid hno
    have c2 := HD.out.hd.get (j := 2) rfl
    have cl := HD.out.hd.lt
    clear hno hww
    by_cases hlt : i < W.l.length
    · obtain ⟨t, ht⟩ : ∃ t, W.l[i]? = some t := ⟨_, List.getElem?_eq_getElem hlt⟩
      obtain ⟨b0, off0, c0, hv, ⟨-, -, a2⟩, bl, hcap⟩ := tm_at HD.out.rows ht
      injection hv with hv hvn hc
      clear hvn
      subst hv hc
      have i1 : (0 : Int) ≤ (i : Int) := by omega
      have i2 : (i : Int) < (W.l.length : Int) := by omega
      by_cases hth : t.h = hd
      · have i3 : (t.h == hd) = true := by simpa using hth
        have hpc := cancel_some (List.mem_of_getElem? ht) hth
        rw [HP.out] at hpc
        injection hpc with e1 e2
        have hcut := filter_cut HOK.out.inj ht
        rw [hth] at hcut
        obtain ⟨a', ea, hfree⟩ : ∃ a' ea, W.a.free hd = (a', ea) := ⟨_, _, rfl⟩
        have HF := Lib.hid (rfree_c HD.out.ar HOK.out.inv.toAOk hfree)
        have HW2 : Hid (W'.now = W.now ∧ W'.a = a' ∧ W'.l = W.l.take i ++ W.l.drop (i + 1)) := Lib.hid (by
          rw [e1]
          refine ⟨rfl, ?_, hcut⟩
          show (W.a.free hd).1 = a'
          rw [hfree])
        have i6 : (i : Int) + 1 ≤ (W.l.length : Int) := by omega
        have i7 : (i : Int) + 1 ≤ (cL : Int) := by omega
        have i8 : (i : Int) ≤ (cL : Int) := by omega
        have i9 : (W.l.length : Int) ≤ (cL : Int) := by omega
        have i10 : ((i : Int) + 1).toNat = i + 1 := by omega
        have i11 : IntKind.i64.wrap ((i : Int) + 1) = (i : Int) + 1 := IntWalk.i64_in _ (by omega)
        have i13 : (0 : Int) ≤ (i : Int) + 1 := by omega
        have HLT : Hid ((W.l.take i).length = i ∧ (W.l.drop (i + 1)).length = W.l.length - (i + 1)) := Lib.hid ⟨by rw [List.length_take]; omega, List.length_drop⟩
        have HZ : Hid (i + (W.l.length - (i + 1)) ≤ 1000000 ∧ True ∧ i ≤ 1000000) := Lib.hid ⟨by omega, trivial, by omega⟩
        obtain ⟨nn, hnn⟩ : ∃ nn, i + (W.l.drop (i + 1)).length = nn := ⟨_, rfl⟩
        have HNN := Lib.hid hnn
        subst e2
        clear hnn ht hth e1 hcut hfree HP HNO
        have c3 := HD.out.hd.get (j := 3) rfl
        go_wp2_with (go_at_call 57; refine HF.out.mono ?_; rintro e w1 ⟨rfl, v4', I, K1, hv4⟩; have HD1 := Lib.hid (HD.out.turn I K1 hv4); have HK1 := Lib.hid (And.intro K1 hv4); clear I K1 hv4 a2 c2 c3 cl)
        have hrw := HD1.out.rows
        have HTK : Hid (∀ V, Kept (fun _ => False) w1 V → Rows tmC 3 V (.slice (some ⟨b0, off0, none⟩) i cL) (W.l.take i)) := Lib.hid fun V K => (hrw.same K).take hi
        have HDR : Hid (∀ V, Kept (fun _ => False) w1 V → Rows tmC 3 V (.slice (some ⟨b0, off0 + (i + 1) * 3, none⟩) (W.l.length - (i + 1)) (cL - (i + 1))) (W.l.drop (i + 1))) := Lib.hid fun V K => (hrw.same K).drop hlt
        have HC : Hid (∀ V, Kept (fun _ => False) w1 V → V.cell? ⟨db, 2, none⟩ = some (.slice (some ⟨b0, off0, none⟩) W.l.length cL) ∧ V.frozen? ⟨db, 2, none⟩ = false ∧ db < V.heap.size) := Lib.hid fun V K => ⟨(HD1.out.same K).hd.get (j := 2) rfl, (HD1.out.same K).hd.fz _, (HD1.out.same K).hd.lt⟩
        have c2 := (HC.out w1 (Kept.refl _ _)).1
        have cl := (HC.out w1 (Kept.refl _ _)).2.2
        clear hrw
        by_cases hcb : cL = i + 1
        · have hlb : W.l.length = i + 1 := by omega
          have HDR0 : Hid (∀ V, Rows tmC 3 V (.slice (some ⟨b0, off0, none⟩) 0 0) (W.l.drop (i + 1))) := Lib.hid fun V => .inl ⟨_, _, rfl, by rw [← hlb]; exact List.drop_length⟩
          subst hcb
          rw [hlb] at c2 HC ⊢
          have i14 : (i : Int) ≤ (i : Int) + 1 := by omega
          go_wp2_with fail
          go_region_law (first | (refine step_rows rfl (.tmp 42) (.tmp 49) rfl el109 tmC_len tmC_one w1.heap.size _ _ i _ (W.l.drop (i + 1)) rfl rfl (ownsRow_kept HW6.out (by repeat (first | exact Kept.refl _ _ | refine Kept.drew ?_)) (fun _ _ _ h => h)) (HDR0.out _) (by rw [HLT.out.2]; exact HZ.out.1) (by decide) (HK6.out.1.trans (by repeat (first | exact Kept.refl _ _ | refine Kept.drew ?_)) (fun _ _ h => h)).size ?_; intro v7 w7 hown7 K7 hb7; rw [HNN.out] at hown7; obtain ⟨p7, c7, rfl⟩ := own_vS hown7; have HW7 := Lib.hid hown7; have HK7 := Lib.hid (after_own HK6.out.1 HK6.out.2 (by repeat (first | exact Kept.refl _ _ | refine Kept.drew ?_)) K7 hb7); have n2 := (HC.out w7 HK7.out.1).1; have n3 := (HC.out w7 HK7.out.1).2.1; have n4 := (HC.out w7 HK7.out.1).2.2; clear hown7 K7 hb7) | (refine step_rows rfl (.tmp 35) (.tmp 41) rfl el109 tmC_len tmC_one w1.heap.size _ _ 0 [] (W.l.take i) rfl rfl (heM (Nat.le_refl _) _ _ _ (by repeat (first | exact Kept.refl _ _ | refine Kept.drew ?_)) (by repeat (first | exact Kept.refl _ _ | refine Kept.drew ?_)) (by simp)).1.1 (HTK.out _ (heM (Nat.le_refl _) _ _ _ (by repeat (first | exact Kept.refl _ _ | refine Kept.drew ?_)) (by repeat (first | exact Kept.refl _ _ | refine Kept.drew ?_)) rfl).1.2.2) (by rw [HLT.out.1, Nat.zero_add]; exact HZ.out.2.2) (by decide) (heM (Nat.le_refl _) _ _ _ (by repeat (first | exact Kept.refl _ _ | refine Kept.drew ?_)) (by repeat (first | exact Kept.refl _ _ | refine Kept.drew ?_)) rfl).1.2.1 ?_; intro v6 w6 hown6 K6 hb6; have HK6 := Lib.hid ((heM (Nat.le_refl _) _ _ _ (by repeat (first | exact Kept.refl _ _ | refine Kept.drew ?_)) (by repeat (first | exact Kept.refl _ _ | refine Kept.drew ?_)) (by simp)).2 v6 w6 K6 hb6); rw [HLT.out.1, Nat.zero_add] at hown6; have HW6 := Lib.hid hown6; have m2 := (HC.out w6 HK6.out.1).1; have m4 := (HC.out w6 HK6.out.1).2.2; clear hown6 K6 hb6))
          all_goals
            have HN7 : Hid (OwnM w7 w1.heap.size (.slice p7 nn c7) (W.l.take i ++ W.l.drop (i + 1))) := Lib.hid (by
              have h1 := HW7.out
              unfold OwnM
              rw [cellsL_append, List.length_append, HLT.out.1, HNN.out]
              exact h1)
            go_wp2_with fail
            go_ret
            have hF := HD1.out.store (W' := W') HK7.out.1 HN7.out.rows (fun b q => .inl ⟨HK7.out.2 b q, (ownsRow_block HN7.out q).2⟩) HW2.out.1 HW2.out.2.1 HW2.out.2.2
            refine ⟨rfl, _, v4', hF, ?_, fun b q => ?_⟩
            · exact ((HK1.out.1.mono fun b _ q => .inr (.inr q)).trans ((HK7.out.1.mono fun b _ q => q.elim)) (fun _ _ h => h)).setCell _ _ (fun _ => .inl rfl)
            · rcases q with q | q | q
              · exact .inl (.inl q)
              · exact .inr (Nat.le_trans HK1.out.1.size (HK7.out.2 b q))
              · rcases q with q | q | q | q | q
                · exact .inl (.inr (.inr (.inl q)))
                · exact .inl (.inr (.inr (.inr (.inl q))))
                · exact .inl (.inr (.inr (.inr (.inr (.inl q)))))
                · exact .inl (.inr (.inr (.inr (.inr (.inr (.inl q))))))
                · rcases HK1.out.2 b q with q | q
                  · exact .inl (.inr (.inr (.inr (.inr (.inr (.inr q))))))
                  · exact .inr q
        · go_wp2_with fail
          go_region_law (first | (refine step_rows rfl (.tmp 42) (.tmp 49) rfl el109 tmC_len tmC_one w1.heap.size _ _ i _ (W.l.drop (i + 1)) rfl rfl (ownsRow_kept HW6.out (by repeat (first | exact Kept.refl _ _ | refine Kept.drew ?_)) (fun _ _ _ h => h)) (HDR.out _ (HK6.out.1.trans (by repeat (first | exact Kept.refl _ _ | refine Kept.drew ?_)) (fun _ _ h => h))) (by rw [HLT.out.2]; exact HZ.out.1) (by decide) (HK6.out.1.trans (by repeat (first | exact Kept.refl _ _ | refine Kept.drew ?_)) (fun _ _ h => h)).size ?_; intro v7 w7 hown7 K7 hb7; rw [HNN.out] at hown7; obtain ⟨p7, c7, rfl⟩ := own_vS hown7; have HW7 := Lib.hid hown7; have HK7 := Lib.hid (after_own HK6.out.1 HK6.out.2 (by repeat (first | exact Kept.refl _ _ | refine Kept.drew ?_)) K7 hb7); have n2 := (HC.out w7 HK7.out.1).1; have n3 := (HC.out w7 HK7.out.1).2.1; have n4 := (HC.out w7 HK7.out.1).2.2; clear hown7 K7 hb7) | (refine step_rows rfl (.tmp 35) (.tmp 41) rfl el109 tmC_len tmC_one w1.heap.size _ _ 0 [] (W.l.take i) rfl rfl (heM (Nat.le_refl _) _ _ _ (by repeat (first | exact Kept.refl _ _ | refine Kept.drew ?_)) (by repeat (first | exact Kept.refl _ _ | refine Kept.drew ?_)) (by simp)).1.1 (HTK.out _ (heM (Nat.le_refl _) _ _ _ (by repeat (first | exact Kept.refl _ _ | refine Kept.drew ?_)) (by repeat (first | exact Kept.refl _ _ | refine Kept.drew ?_)) rfl).1.2.2) (by rw [HLT.out.1, Nat.zero_add]; exact HZ.out.2.2) (by decide) (heM (Nat.le_refl _) _ _ _ (by repeat (first | exact Kept.refl _ _ | refine Kept.drew ?_)) (by repeat (first | exact Kept.refl _ _ | refine Kept.drew ?_)) rfl).1.2.1 ?_; intro v6 w6 hown6 K6 hb6; have HK6 := Lib.hid ((heM (Nat.le_refl _) _ _ _ (by repeat (first | exact Kept.refl _ _ | refine Kept.drew ?_)) (by repeat (first | exact Kept.refl _ _ | refine Kept.drew ?_)) (by simp)).2 v6 w6 K6 hb6); rw [HLT.out.1, Nat.zero_add] at hown6; have HW6 := Lib.hid hown6; have m2 := (HC.out w6 HK6.out.1).1; have m4 := (HC.out w6 HK6.out.1).2.2; clear hown6 K6 hb6))
          all_goals
            have HN7 : Hid (OwnM w7 w1.heap.size (.slice p7 nn c7) (W.l.take i ++ W.l.drop (i + 1))) := Lib.hid (by
              have h1 := HW7.out
              unfold OwnM
              rw [cellsL_append, List.length_append, HLT.out.1, HNN.out]
              exact h1)
            go_wp2_with fail
            go_ret
            have hF := HD1.out.store (W' := W') HK7.out.1 HN7.out.rows (fun b q => .inl ⟨HK7.out.2 b q, (ownsRow_block HN7.out q).2⟩) HW2.out.1 HW2.out.2.1 HW2.out.2.2
            refine ⟨rfl, _, v4', hF, ?_, fun b q => ?_⟩
            · exact ((HK1.out.1.mono fun b _ q => .inr (.inr q)).trans ((HK7.out.1.mono fun b _ q => q.elim)) (fun _ _ h => h)).setCell _ _ (fun _ => .inl rfl)
            · rcases q with q | q | q
              · exact .inl (.inl q)
              · exact .inr (Nat.le_trans HK1.out.1.size (HK7.out.2 b q))
              · rcases q with q | q | q | q | q
                · exact .inl (.inr (.inr (.inl q)))
                · exact .inl (.inr (.inr (.inr (.inl q))))
                · exact .inl (.inr (.inr (.inr (.inr (.inl q)))))
                · exact .inl (.inr (.inr (.inr (.inr (.inr (.inl q))))))
                · rcases HK1.out.2 b q with q | q
                  · exact .inl (.inr (.inr (.inr (.inr (.inr (.inr q))))))
                  · exact .inr q
      · have i3 : (t.h == hd) = false := by simpa using hth
        have HN : Hid (∀ (j : Nat) (t' : Tm), j < i + 1 → W.l[j]? = some t' → t'.h ≠ hd) := Lib.hid fun j t' hj ht' => by
          by_cases e : j = i
          · subst e; rw [ht] at ht'; injection ht' with ht'; subst ht'; exact hth
          · exact HNO.out j t' (by omega) ht'
        clear ht hth
        go_wp2_with fail
        go_roundw
        case rel => exact ⟨i + 1, by omega, by go_num, HN.out, trivial⟩
        case measure => simp [intOf]; omega
    · obtain rfl : i = W.l.length := by omega
      have HX : Hid (W' = W ∧ er = 5) := Lib.hid (by
        have := cancel_none (W := W) (h := hd) fun x hx => by
          obtain ⟨j, hj⟩ := List.getElem?_of_mem hx
          exact HNO.out j x (List.getElem?_eq_some_iff.1 hj).1 hj
        rw [HP.out] at this
        injection this with e1 e2
        exact ⟨e1, e2⟩)
      go_wp2_with fail
      go_ret
      rw [HX.out.1, HX.out.2]
      exact ⟨rfl, HD.out.post (Kept.refl _ _)⟩
end Go.Proofs.YtjlcchjcppkbjaaDoor
/- Copy of the document's wheel. -/
namespace Go.Proofs.YtjlcchjcppkbjaaDoor
open Go.RowKit
variable {w w' wN : World} {base db rb b1 : Nat} {vL v1 v2 v3 v4 v6 u1 u2 u3 u4 : Value} {W : Wh}
theorem DW.made (I : IsR wN b1 rb u1 u2 u3 u4 W.a) (hb : w.heap.size ≤ b1) (hw : w.heap.size ≤ wN.heap.size) (O : OwnM wN w.heap.size v6 W.l) (hd : ∀ b, v6.ownBlock = some b → ¬ FR rb u1 u2 u3 u4 b) :
    DW (wN.alloc (.cells #[.bool true, .int .i64 W.now, v6, .pointer (some ⟨rb, 0, none⟩)] 111)) w.heap.size wN.heap.size v6 rb u1 u2 u3 u4 W := by
  have KA : Kept (fun _ => False) wN (wN.alloc (.cells #[.bool true, .int .i64 W.now, v6, .pointer (some ⟨rb, 0, none⟩)] 111)) := (Kept.refl _ _).alloc _
  have I0 : IsR wN w.heap.size rb u1 u2 u3 u4 W.a := ⟨I.hd, ownsRow_base I.uses hb, ownsRow_base I.tks hb, ownsRow_base I.vs hb, ownsRow_base I.frd hb, I.a1, I.a2, I.a3, I.a4, Nat.le_trans hb I.lo⟩
  exact {
    hd := RowAt.new wN 111 #[.bool true, .int .i64 W.now, v6, .pointer (some ⟨rb, 0, none⟩)]
    rows := O.rows.same KA
    ar := I0.same KA
    lo := hw
    own := fun b q => by
      have := ownsRow_block O q
      refine ⟨this.1, by simp only [World.size_alloc]; omega, by omega, hd b q⟩
    apart := fun q => by have := (I0.ltF q).1; omega }
set_option maxRecDepth 100000 in
set_option maxHeartbeats 2000000 in
theorem dcopy_c (h : DW w base db vL rb v1 v2 v3 v4 W) (ok : WOk W) (hll : W.l.length ≤ 5000) :
    Calls Tryd.prog 32 #[.pointer (some ⟨db, 0, none⟩)] w fun e w' => ∃ db2 vL2 rb2 u1 u2 u3 u4, e = .returned (.pointer (some ⟨db2, 0, none⟩)) ∧ DW w' w.heap.size db2 vL2 rb2 u1 u2 u3 u4 W ∧ Kept (fun _ => False) w w' := by
  have HD := Lib.hid h
  have HV := Lib.hid (dvalid_c h)
  obtain ⟨pL, cL, rfl⟩ := h.rows.len
  have HRC : Hid (∀ V, Kept (fun _ => False) w V → Calls Tryd.prog 58 #[.pointer (some ⟨rb, 0, none⟩)] V fun e w' => ∃ rb' u1 u2 u3 u4, e = .returned (.pointer (some ⟨rb', 0, none⟩)) ∧ IsR w' V.heap.size rb' u1 u2 u3 u4 W.a ∧ Kept (fun _ => False) V w') := Lib.hid fun V K => rcopy_c (h.ar.same K) ok.inv.toAOk
  have HRW : Hid (∀ V, Kept (fun _ => False) w V → Rows tmC 3 V (.slice pL W.l.length cL) W.l) := Lib.hid fun V K => h.rows.same K
  have HS0 : Hid (∀ V, Kept (fun _ => False) w V → V.cell? ⟨db, 1, none⟩ = some (.int .i64 W.now) ∧ V.cell? ⟨db, 2, none⟩ = some (.slice pL W.l.length cL) ∧ V.cell? ⟨db, 3, none⟩ = some (.pointer (some ⟨rb, 0, none⟩)) ∧ db < V.heap.size) := Lib.hid fun V K => ⟨(h.same K).hd.get (j := 1) rfl, (h.same K).hd.get (j := 2) rfl, (h.same K).hd.get (j := 3) rfl, (h.same K).hd.lt⟩
  have HLL := Lib.hid hll
  clear h ok hll
  go_enter Tryd.func32, Tryd.ntmps32
  go_wp2_with (go_at_call 55; refine HV.out.mono ?_; rintro e w' ⟨rfl, hww⟩; obtain rfl := hww.symm)
  go_region_held3 (fun V => V.cell? ⟨db, 1, none⟩ = some (.int .i64 W.now) ∧ V.cell? ⟨db, 2, none⟩ = some (.slice pL W.l.length cL) ∧ V.cell? ⟨db, 3, none⟩ = some (.pointer (some ⟨rb, 0, none⟩)) ∧ db < V.heap.size) (exact HS0.out _ (by repeat (first | exact Kept.refl _ _ | exact HKA.out | refine Kept.alloc ?_ _ | refine Kept.drew ?_ | refine Kept.trans ?_ HKC.out (fun _ _ h => h)))) (first | (refine step_rows rfl (.tmp 10) (.tmp 14) rfl el109 tmC_len tmC_one w.heap.size (.slice (some ⟨w.heap.size, 0, none⟩) 0 0) (.slice pL W.l.length cL) 0 [] W.l rfl rfl (heM (w5 := w) (base := w.heap.size) (Nat.le_refl _) w.heap.size w _ ((Kept.refl _ _).drew) (Kept.refl _ _) rfl).1.1 (HRW.out _ (by repeat (first | exact Kept.refl _ _ | exact HKA.out | refine Kept.alloc ?_ _ | refine Kept.drew ?_ | refine Kept.trans ?_ HKC.out (fun _ _ h => h)))) (by rw [Nat.zero_add]; exact Nat.le_trans HLL.out (by decide)) (by decide) (heM (w5 := w) (base := w.heap.size) (Nat.le_refl _) w.heap.size w _ ((Kept.refl _ _).drew) (Kept.refl _ _) rfl).1.2.1 ?_; intro v6 w6 hown6 K6 hb6; have HKA : Hid (Kept (fun _ => False) w w6) := Lib.hid ((heM (w5 := w) (base := w.heap.size) (Nat.le_refl _) w.heap.size w _ ((Kept.refl _ _).drew) (Kept.refl _ _) rfl).2 v6 w6 K6 hb6).1; rw [Nat.zero_add] at hown6; obtain ⟨p6, c6, rfl⟩ := own_vS hown6; have HW6 : Hid (OwnM w6 w.heap.size (.slice p6 W.l.length c6) W.l) := Lib.hid hown6; clear hown6 K6 hb6) | (go_at_call 58; refine (HRC.out _ (by repeat (first | exact Kept.refl _ _ | exact HKA.out | refine Kept.alloc ?_ _ | refine Kept.drew ?_ | refine Kept.trans ?_ HKC.out (fun _ _ h => h)))).mono ?_; rintro e w2 ⟨rb2, u1, u2, u3, u4, rfl, I, K⟩; have HKC := Lib.hid K; have HI2 := Lib.hid I; clear I K; have HAP : Hid (∀ b, (Value.slice p6 W.l.length c6).ownBlock = some b → ¬ FR rb2 u1 u2 u3 u4 b) := Lib.hid (fun b q s => by have h1 := (HI2.out.ltF s).2; have h2 := (ownsRow_block HW6.out q).2; (try simp at h1); omega)))
  all_goals
    go_wp2_with fail
    go_ret
    refine ⟨w2.heap.size, .slice p6 W.l.length c6, rb2, u1, u2, u3, u4, rfl, ?_, ?_⟩
    · exact DW.made HI2.out HKA.out.size (HKA.out.trans HKC.out (fun _ _ h => h)).size (ownsRow_kept HW6.out HKC.out (fun _ _ _ h => h)) HAP.out
    · repeat (first | exact Kept.refl _ _ | exact HKA.out | refine Kept.alloc ?_ _ | refine Kept.drew ?_ | refine Kept.trans ?_ HKC.out (fun _ _ h => h))
end Go.Proofs.YtjlcchjcppkbjaaDoor
/- A wheel of the program's beside one of the document's. -/
namespace Go.Proofs.YtjlcchjcppkbjaaDoor
open Go.RowKit
structure Wd0 (w0 w : World) (F : Nat → Prop) (B db : Nat) (vL : Value) (rb : Nat) (v1 v2 v3 v4 : Value) (W1 W2 : Wh) : Prop where
  wl : Wl w0 w (fun b => F b ∨ DP db vL rb v1 v2 v3 v4 b) B W1
  dw : DW w w0.heap.size db vL rb v1 v2 v3 v4 W2
  ap : ∀ b, F b → ¬ DP db vL rb v1 v2 v3 v4 b
/-- Wheel W1 of the program's at B, wheel W2 of the document's at db; the blocks of F are others'. -/
def Wd (w0 w : World) (F : Nat → Prop) (B db : Nat) (W1 W2 : Wh) : Prop := ∃ vL rb v1 v2 v3 v4, Wd0 w0 w F B db vL rb v1 v2 v3 v4 W1 W2
variable {w w' w0 : World} {F G N : Nat → Prop} {B db rb : Nat} {vL v1 v2 v3 v4 vL' v4' : Value} {W1 W2 W' : Wh}
theorem Wl.ltF (h : Wl w0 w F B W1) {b : Nat} (q : F b) : b < w.heap.size := by
  obtain ⟨t, kd, h1, h2, h3⟩ := h
  exact (h2 b q).1
theorem Wd0.doc (h : Wd0 w0 w F B db vL rb v1 v2 v3 v4 W1 W2) (h' : DW w' w0.heap.size db vL' rb v1 v2 v3 v4' W') (K : Kept (DP db vL rb v1 v2 v3 v4) w w') (hn : ∀ b, DP db vL' rb v1 v2 v3 v4' b → DP db vL rb v1 v2 v3 v4 b ∨ w.heap.size ≤ b)
    (hN : ∀ b, N b → w.heap.size ≤ b ∧ b < w'.heap.size ∧ ¬ DP db vL' rb v1 v2 v3 v4' b) : Wd0 w0 w' (fun b => F b ∨ N b) B db vL' rb v1 v2 v3 v4' W1 W' where
  wl := h.wl.grow K (fun b q => .inr q) (fun b hb q => by have := (h.dw.lt q).1; omega) (fun b q => by
    rcases q with (q | q) | q
    · exact ⟨Nat.lt_of_lt_of_le (h.wl.ltF (.inl q)) K.size, .inl (.inl q)⟩
    · exact ⟨(hN b q).2.1, .inr (hN b q).1⟩
    · refine ⟨(h'.lt q).2, ?_⟩
      rcases hn b q with q | q
      · exact .inl (.inr q)
      · exact .inr q)
  dw := h'
  ap := fun b q s => by
    rcases q with q | q
    · rcases hn b s with s | s
      · exact h.ap b q s
      · have := h.wl.ltF (b := b) (.inl q); omega
    · exact (hN b q).2.2 s
theorem Wd.tab (h : Wd w0 w F B db W1 W2) : Tab w := let ⟨_, _, _, _, _, _, h⟩ := h; h.wl.tab
theorem Wd.kept0 (h : Wd w0 w F B db W1 W2) : Kept (fun _ => False) w0 w := let ⟨_, _, _, _, _, _, h⟩ := h; h.wl.kept0
theorem Wd.ok (h : Wd w0 w F B db W1 W2) : WOk W1 := let ⟨_, _, _, _, _, _, h⟩ := h; h.wl.ok
theorem Wd.same (h : Wd w0 w F B db W1 W2) (K : Kept (fun _ => False) w w') : Wd w0 w' F B db W1 W2 := by
  obtain ⟨_, _, _, _, _, _, h⟩ := h
  exact ⟨_, _, _, _, _, _, h.wl.same K, h.dw.same K, h.ap⟩
theorem Wd.mono (h : Wd w0 w F B db W1 W2) (hG : ∀ b, G b → F b) : Wd w0 w G B db W1 W2 := by
  obtain ⟨_, _, _, _, _, _, h⟩ := h
  exact ⟨_, _, _, _, _, _, h.wl.mono (fun b q => q.imp (hG b) id), h.dw, fun b q => h.ap b (hG b q)⟩
theorem Wd.fresh (h : Wd w0 w F B db W1 W2) (K : Kept (fun _ => False) w w') (hG : ∀ b, G b → b < w'.heap.size ∧ (F b ∨ w.heap.size ≤ b)) : Wd w0 w' G B db W1 W2 := by
  obtain ⟨_, _, _, _, _, _, h⟩ := h
  refine ⟨_, _, _, _, _, _, h.wl.fresh K (fun b q => ?_), h.dw.same K, fun b q s => ?_⟩
  · rcases q with q | q
    · exact ⟨(hG b q).1, (hG b q).2.imp .inl id⟩
    · exact ⟨Nat.lt_of_lt_of_le (h.dw.lt q).2 K.size, .inl (.inr q)⟩
  · rcases (hG b q).2 with q | q
    · exact h.ap b q s
    · have := (h.dw.lt s).2; omega
theorem Wd.fit (h : Wd w0 w F B db W1 W2) : ∀ b, F b → b < w.heap.size := by
  obtain ⟨_, _, _, _, _, _, h⟩ := h
  exact fun b q => h.wl.ltF (.inl q)
/-- The program's calls. -/
theorem p_add {at_ id : Int} (h : Wd w0 w F B db W1 W2) (hs : W1.seq ≤ 1000000000) {hd er : Int} (hp : W1.add at_ id = (W', hd, er)) :
    Calls Tryd.prog 15 #[.pointer (some ⟨B, 0, none⟩), .int .i64 at_, .int .i64 id] w fun e w' => e = .returned (.tuple #[.int .i64 hd, .int .i64 er]) ∧ Wd w0 w' F B db W' W2 ∧ Kept (fun b => ¬ F b) w w' := by
  obtain ⟨_, _, _, _, _, _, h⟩ := h
  refine (l_add h.wl hs hp).mono ?_
  rintro e w' ⟨rfl, h2, K⟩
  exact ⟨rfl, ⟨_, _, _, _, _, _, h2, h.dw.kept K (fun b q s => s (.inr q)), h.ap⟩, K.mono fun b _ q f => q (.inl f)⟩
theorem p_cancel {hd : Int} (h : Wd w0 w F B db W1 W2) (h0 : -9223372036854775808 ≤ hd) (h1' : hd ≤ 9223372036854775807) {er : Int} (hp : W1.cancel hd = (W', er)) :
    Calls Tryd.prog 20 #[.pointer (some ⟨B, 0, none⟩), .int .i64 hd] w fun e w' => e = .returned (.int .i64 er) ∧ Wd w0 w' F B db W' W2 ∧ Kept (fun b => ¬ F b) w w' := by
  obtain ⟨_, _, _, _, _, _, h⟩ := h
  refine (l_cancel h.wl h0 h1' hp).mono ?_
  rintro e w' ⟨rfl, h2, K⟩
  exact ⟨rfl, ⟨_, _, _, _, _, _, h2, h.dw.kept K (fun b q s => s (.inr q)), h.ap⟩, K.mono fun b _ q f => q (.inl f)⟩
theorem p_advance {lim : Int} (h : Wd w0 w F B db W1 W2) {l : List Tm} {er : Int} (hp : W1.advance lim = (W', l, er)) :
    Calls Tryd.prog 17 #[.pointer (some ⟨B, 0, none⟩), .int .i64 lim] w fun e w' => ∃ v, e = .returned (.tuple #[v, .int .i64 er]) ∧ Own w' w.heap.size v (l.map Tm.fd) ∧ Wd w0 w' (fun b => F b ∨ v.ownBlock = some b) B db W' W2 ∧ Kept (fun b => ¬ F b) w w' := by
  obtain ⟨_, _, _, _, _, _, h⟩ := h
  refine (l_advance h.wl hp).mono ?_
  rintro e w' ⟨v, rfl, ho, h2, K⟩
  refine ⟨v, rfl, ho, ⟨_, _, _, _, _, _, h2.mono (fun b q => ?_), h.dw.kept K (fun b q s => s (.inr q)), fun b q s => ?_⟩, K.mono fun b _ q f => q (.inl f)⟩
  · rcases q with (q | q) | q
    · exact .inl (.inl q)
    · exact .inr q
    · exact .inl (.inr q)
  · rcases q with q | q
    · exact h.ap b q s
    · have := (h.dw.lt s).2; have := (ownsRow_block ho q).1; omega
theorem p_list (h : Wd w0 w F B db W1 W2) :
    Calls Tryd.prog 24 #[.pointer (some ⟨B, 0, none⟩)] w fun e w' => ∃ v, e = .returned v ∧ Own w' w.heap.size v (W1.l.map Tm.fd) ∧ Kept (fun _ => False) w w' := by
  obtain ⟨_, _, _, _, _, _, h⟩ := h
  refine (l_list h.wl).mono ?_
  rintro e w' ⟨v, rfl, ho, h2, K⟩
  exact ⟨v, rfl, ho, K⟩
theorem p_now (h : Wd w0 w F B db W1 W2) : Calls Tryd.prog 21 #[.pointer (some ⟨B, 0, none⟩)] w fun e w' => e = .returned (.int .i64 W1.now) ∧ w' = w := let ⟨_, _, _, _, _, _, h⟩ := h; l_now h.wl
theorem p_len (h : Wd w0 w F B db W1 W2) : Calls Tryd.prog 16 #[.pointer (some ⟨B, 0, none⟩)] w fun e w' => e = .returned (.int .i64 W1.l.length) ∧ w' = w := let ⟨_, _, _, _, _, _, h⟩ := h; l_len h.wl
theorem p_room (h : Wd w0 w F B db W1 W2) : Calls Tryd.prog 22 #[.pointer (some ⟨B, 0, none⟩)] w fun e w' => e = .returned (.int .i64 W1.a.room) ∧ Kept (fun _ => False) w w' := let ⟨_, _, _, _, _, _, h⟩ := h; l_room h.wl
theorem p_next (h : Wd w0 w F B db W1 W2) {n : Int} {b : Bool} (hp : W1.next = (n, b)) :
    Calls Tryd.prog 25 #[.pointer (some ⟨B, 0, none⟩)] w fun e w' => e = .returned (.tuple #[.int .i64 n, .bool b]) ∧ Kept (fun _ => False) w w' := by
  obtain ⟨_, _, _, _, _, _, h⟩ := h
  refine (l_next h.wl hp).mono ?_
  rintro e w' ⟨rfl, -, K⟩
  exact ⟨rfl, K⟩
theorem p_copy (h : Wd w0 w F B db W1 W2) :
    Calls Tryd.prog 26 #[.pointer (some ⟨B, 0, none⟩)] w fun e w' => ∃ B2, e = .returned (.pointer (some ⟨B2, 0, none⟩)) ∧ Wd w0 w' F B2 db W1 W2 ∧ Kept (fun _ => False) w w' := by
  obtain ⟨_, _, _, _, _, _, h⟩ := h
  refine (l_copy h.wl).mono ?_
  rintro e w' ⟨B2, rfl, ⟨kd, I, -⟩, K⟩
  have h0 := h.wl.kept0
  refine ⟨B2, rfl, ⟨_, _, _, _, _, _, ⟨h.wl.1, kd, I.base h0.size, fun b q => ⟨Nat.lt_of_lt_of_le (h.wl.ltF q) K.size, ?_⟩, h0.trans K (fun _ _ h => h)⟩, h.dw.same K, h.ap⟩, K⟩
  by_cases e : kd b = 0
  · exact e
  · have := (I.lo b e).1; have := h.wl.ltF q; omega
/-- The document's calls. -/
theorem Wd.post {w0 w w' : World} {F : Nat → Prop} {B db rb : Nat} {vL v1 v2 v3 v4 : Value} {W1 W2 W' : Wh} (h : Wd0 w0 w F B db vL rb v1 v2 v3 v4 W1 W2) (p : DPost w w' w0.heap.size db vL rb v1 v2 v3 v4 W') : Wd w0 w' F B db W1 W' ∧ Kept (fun b => ¬ F b) w w' := by
  obtain ⟨vL', v4', h', K, hn⟩ := p
  exact ⟨Wd.mono ⟨_, _, _, _, _, _, h.doc (N := fun _ => False) h' K hn (fun b q => q.elim)⟩ (fun b q => .inl q), K.mono fun b _ q f => h.ap b f q⟩
theorem q_add {at_ id : Int} (h : Wd w0 w F B db W1 W2) (ok : WOk W2) (hs : W2.seq ≤ 1000000000) (hll : W2.l.length ≤ 5000) {hd er : Int} (hp : W2.add at_ id = (W', hd, er)) :
    Calls Tryd.prog 28 #[.pointer (some ⟨db, 0, none⟩), .int .i64 at_, .int .i64 id] w fun e w' => e = .returned (.tuple #[.int .i64 hd, .int .i64 er]) ∧ Wd w0 w' F B db W1 W' ∧ Kept (fun b => ¬ F b) w w' := by
  obtain ⟨_, _, _, _, _, _, h⟩ := h
  refine (dadd_c h.dw ok hll hp).mono ?_
  rintro e w' ⟨rfl, p⟩
  exact ⟨rfl, Wd.post h p⟩
theorem q_cancel {hd : Int} (h : Wd w0 w F B db W1 W2) (ok : WOk W2) (hll : W2.l.length ≤ 5000) {er : Int} (hp : W2.cancel hd = (W', er)) :
    Calls Tryd.prog 29 #[.pointer (some ⟨db, 0, none⟩), .int .i64 hd] w fun e w' => e = .returned (.int .i64 er) ∧ Wd w0 w' F B db W1 W' ∧ Kept (fun b => ¬ F b) w w' := by
  obtain ⟨_, _, _, _, _, _, h⟩ := h
  refine (dcancel_c h.dw ok hll hp).mono ?_
  rintro e w' ⟨rfl, p⟩
  exact ⟨rfl, Wd.post h p⟩
theorem q_advance {lim : Int} (h : Wd w0 w F B db W1 W2) (ok : WOk W2) (hll : W2.l.length ≤ 5000) {l : List Tm} {er : Int} (hp : W2.advance lim = (W', l, er)) :
    Calls Tryd.prog 30 #[.pointer (some ⟨db, 0, none⟩), .int .i64 lim] w fun e w' => ∃ v, e = .returned (.tuple #[v, .int .i64 er]) ∧ OwnD w' w.heap.size v (l.map Tm.fd) ∧ Wd w0 w' F B db W1 W' ∧ Kept (fun b => ¬ F b) w w' := by
  obtain ⟨_, _, _, _, _, _, h⟩ := h
  refine (dadvance_c h.dw ok hll hp).mono ?_
  rintro e w' ⟨v, rfl, ho, vL', v4', h', K, hn, -⟩
  obtain ⟨h1, h2⟩ := Wd.post h ⟨vL', v4', h', K, hn⟩
  exact ⟨v, rfl, ho, h1, h2⟩
theorem q_next (h : Wd w0 w F B db W1 W2) {n : Int} {b : Bool} (hp : W2.next = (n, b)) : Calls Tryd.prog 33 #[.pointer (some ⟨db, 0, none⟩)] w fun e w' => e = .returned (.tuple #[.int .i64 n, .bool b]) ∧ w' = w := let ⟨_, _, _, _, _, _, h⟩ := h; dnext_c h.dw hp
theorem q_now (h : Wd w0 w F B db W1 W2) : Calls Tryd.prog 34 #[.pointer (some ⟨db, 0, none⟩)] w fun e w' => e = .returned (.int .i64 W2.now) ∧ w' = w := let ⟨_, _, _, _, _, _, h⟩ := h; dnow_c h.dw
theorem q_len (h : Wd w0 w F B db W1 W2) : Calls Tryd.prog 35 #[.pointer (some ⟨db, 0, none⟩)] w fun e w' => e = .returned (.int .i64 W2.l.length) ∧ w' = w := let ⟨_, _, _, _, _, _, h⟩ := h; dlen_c h.dw
theorem q_room (h : Wd w0 w F B db W1 W2) (ok : WOk W2) : Calls Tryd.prog 36 #[.pointer (some ⟨db, 0, none⟩)] w fun e w' => e = .returned (.int .i64 W2.a.room) ∧ Kept (fun _ => False) w w' := let ⟨_, _, _, _, _, _, h⟩ := h; droom_c h.dw ok
theorem q_list (h : Wd w0 w F B db W1 W2) (hll : W2.l.length ≤ 5000) : Calls Tryd.prog 37 #[.pointer (some ⟨db, 0, none⟩)] w fun e w' => ∃ v, e = .returned v ∧ OwnD w' w.heap.size v (W2.l.map Tm.fd) ∧ Kept (fun _ => False) w w' := let ⟨_, _, _, _, _, _, h⟩ := h; dlist_c h.dw hll
theorem q_copy (h : Wd w0 w F B db W1 W2) (ok : WOk W2) (hll : W2.l.length ≤ 5000) :
    Calls Tryd.prog 32 #[.pointer (some ⟨db, 0, none⟩)] w fun e w' => ∃ db2, e = .returned (.pointer (some ⟨db2, 0, none⟩)) ∧ Wd w0 w' F B db2 W1 W2 ∧ Kept (fun _ => False) w w' := by
  obtain ⟨_, _, _, _, _, _, h⟩ := h
  refine (dcopy_c h.dw ok hll).mono ?_
  rintro e w' ⟨db2, vL2, rb2, u1, u2, u3, u4, rfl, h2, K⟩
  refine ⟨db2, rfl, ⟨vL2, rb2, u1, u2, u3, u4, ⟨h.wl.fresh K (fun b q => ?_), h2.base h.wl.kept0.size, fun b q s => ?_⟩⟩, K⟩
  · rcases q with q | q
    · exact ⟨Nat.lt_of_lt_of_le (h.wl.ltF (b := b) (.inl q)) K.size, .inl (.inl q)⟩
    · exact ⟨(h2.lt q).2, .inr (h2.lt q).1⟩
  · have := (h2.lt s).1; have := h.wl.ltF (b := b) (.inl q); omega
/-- New of both. -/
theorem Wd.start {n now : Int} {w1 : World} (h : Wl w0 w1 (fun _ => False) B (Wh.new n.toNat now)) {w2 : World} (h2 : DW w2 w1.heap.size db vL rb v1 v2 v3 v4 (Wh.new n.toNat now)) (K : Kept (fun _ => False) w1 w2) : Wd w0 w2 (fun _ => False) B db (Wh.new n.toNat now) (Wh.new n.toNat now) :=
  ⟨vL, rb, v1, v2, v3, v4, ⟨h.fresh K (fun b q => by
    rcases q with q | q
    · exact q.elim
    · exact ⟨(h2.lt q).2, .inr (h2.lt q).1⟩), h2.base h.kept0.size, fun b q => q.elim⟩⟩
end Go.Proofs.YtjlcchjcppkbjaaDoor
