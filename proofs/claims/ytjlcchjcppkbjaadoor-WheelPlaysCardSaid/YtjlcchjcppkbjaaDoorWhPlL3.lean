/- WhPlL3: texts for the statements of this seat: contracts of functions, walks, plain laws. Conditions: none. -/
import Derived.Deep.QuietTactic
import Derived.BigQuiet
import Derived.Deep.RegionLaw
import Derived.Deep.Cut
import Derived.Deep.CutRange
import Derived.Deep.DeepCutAuto
import Derived.Test.YtjlcchjcppkbjaaDoorWhM
set_option linter.all false
/- place: a timer is put where it belongs; a theorem for each level. (Printed by gen_place.py.) -/
namespace Go.Proofs.YtjlcchjcppkbjaaDoor
open Go.RowKit
variable {w W w' : World} {wb base : Nat} {V : Nat → Value} {Q : Nat → List Pt} {kd : Nat → Nat} {fr : Int} {i : Nat} {t : Pt}
set_option maxRecDepth 100000 in
set_option maxHeartbeats 4000000 in
theorem place_3 (C : Core w wb base V Q kd fr) (t : Pt) (lv sl : Int) (T : TmAt w t lv sl) (hk : kd t.b = 400) (hnew : ∀ j, j < 257 → ∀ u ∈ Q j, u.b ≠ t.b) (hf0 : 0 ≤ fr) (hf1 : fr ≤ 4611686018427387905) (hx0 : 0 ≤ t.x.at_) (hx1 : t.x.at_ ≤ 4611686018427387904) (hlen : (Q (64 * 3 + slt 3 t.x.at_)).length ≤ 1000000) (h0 : t.x.at_ / 64 ≠ fr / 64) (h1 : t.x.at_ / 4096 ≠ fr / 4096) (h2 : t.x.at_ / 262144 ≠ fr / 262144) (h3 : t.x.at_ / 16777216 = fr / 16777216) :
    Calls Tryd.prog 41 #[.pointer (some ⟨wb, 0, none⟩), .pointer (some ⟨t.b, 0, none⟩)] w fun e w' => e = .returned (.tuple #[]) ∧ PlacePost w wb base V Q kd fr (64 * 3 + slt 3 t.x.at_) t w' := by
  have d0 : (t.x.at_ / 64 != fr / 64) = true := by simpa using h0
  have d0' : (t.x.at_ / 64 == fr / 64) = false := by simpa using h0
  have d1 : (t.x.at_ / 4096 != fr / 4096) = true := by simpa using h1
  have d1' : (t.x.at_ / 4096 == fr / 4096) = false := by simpa using h1
  have d2 : (t.x.at_ / 262144 != fr / 262144) = true := by simpa using h2
  have d2' : (t.x.at_ / 262144 == fr / 262144) = false := by simpa using h2
  have d3 : (t.x.at_ / 16777216 != fr / 16777216) = false := by simpa using h3
  have d3' : (t.x.at_ / 16777216 == fr / 16777216) = true := by simpa using h3
  have HI : Hid (∀ W, Calls Tryd.prog 61 #[.int .i64 t.x.at_, .int .i64 3] W fun e w' => e = .returned (.int .i64 (slt 3 t.x.at_)) ∧ w' = W) := Lib.hid fun W => index_c t.x.at_ 3 (by omega) hx0 (by omega) W
  generalize hs : slt 3 t.x.at_ = s at HI hlen ⊢
  have hs64 : s < 64 := hs ▸ slt_lt 3 _
  have cf := C.fr
  have ca := T.at_
  have c4 := T.lv
  have c5 := T.sl
  have f4 := T.fz 4
  have f5 := T.fz 5
  have tl := T.lt
  have lw := C.R.ltw
  have hwt : wb ≠ t.b := fun e => by have h := C.R.kw; rw [e, hk] at h; omega
  have HC := Lib.hid C
  have HT := Lib.hid T
  have HK := Lib.hid hk
  have HN := Lib.hid hnew
  clear C T hk hnew h0 h1 h2 h3 hs
  go_enter Tryd.func41, Tryd.ntmps41
  go_wp2
  refine wp_loop_rounds 4 ?_
  rw [rounds_succ]
  go_wp2
  go_quiet (fail)
  obtain ⟨m0, rfl⟩ : ∃ m, m = nq := ⟨_, rfl⟩
  go_wp2
  rw [rounds_succ]
  go_wp2
  go_quiet (fail)
  obtain ⟨m1, rfl⟩ : ∃ m, m = nq := ⟨_, rfl⟩
  go_wp2
  rw [rounds_succ]
  go_wp2
  go_quiet (fail)
  obtain ⟨m2, rfl⟩ : ∃ m, m = nq := ⟨_, rfl⟩
  go_wp2
  rw [rounds_succ]
  go_wp2
  go_quiet (fail)
  obtain ⟨m3, rfl⟩ : ∃ m, m = nq := ⟨_, rfl⟩
  go_wp2_with (go_at_call 61; refine (HI.out _).mono ?_; rintro e w' ⟨rfl, rfl⟩)
  have K0 : Kept (fun b => b = t.b) w (World.setCell (World.setCell (World.drewN w (((m0 + m1) + m2) + m3)) ⟨t.b, 4, none⟩ (.int .i64 3)) ⟨t.b, 5, none⟩ (.int .i64 s)) := (((Kept.refl (fun b => b = t.b) w).drewN (((m0 + m1) + m2) + m3)).setCell _ _ (fun _ => rfl)).setCell _ _ (fun _ => rfl)
  have T1 : TmAt (World.setCell (World.setCell (World.drewN w (((m0 + m1) + m2) + m3)) ⟨t.b, 4, none⟩ (.int .i64 3)) ⟨t.b, 5, none⟩ (.int .i64 s)) t 3 s := ((HT.out.kept ((Kept.refl (fun _ => False) w).drewN (((m0 + m1) + m2) + m3)) (fun h => h)).setLv 3).setSl s
  generalize World.setCell (World.setCell (World.drewN w (((m0 + m1) + m2) + m3)) ⟨t.b, 4, none⟩ (.int .i64 3)) ⟨t.b, 5, none⟩ (.int .i64 s) = W at K0 T1 ⊢
  have HC1 := Lib.hid (HC.out.marked HT.out HK.out HN.out K0)
  have HK0 := Lib.hid K0
  have T2 : TmIn W t (64 * 3 + s) := ⟨s, by rw [show (64 * 3 + s) / 64 = 3 by omega]; exact T1, fun _ => by rw [show (64 * 3 + s) % 64 = s by omega]⟩
  have HF := Lib.hid (put_fin HC1.out.R HC1.out.fz (by omega) T2 HK.out HN.out)
  have eo : off (64 * 3 + s) = 197 + s := by unfold off; rw [if_pos (by omega)]; omega
  have hcv := HC1.out.R.cell (64 * 3 + s) (by omega)
  rw [eo] at HF hcv
  have hrow := Lib.hid (HC1.out.R.row (64 * 3 + s) (by omega))
  have hVw : (V (64 * 3 + s)).ownBlock ≠ some wb := fun e => by have := HC.out.R.kV _ (by omega) wb e; rw [HC.out.R.kw] at this; omega
  have hVt : (V (64 * 3 + s)).ownBlock ≠ some t.b := fun e => by have h1 := HC.out.R.kV _ (by omega) t.b e; have h2 := HK.out; omega
  have HV := Lib.hid hVw
  have HVt := Lib.hid hVt
  have hfz := HC1.out.fz (197 + s)
  have hlt := T1.lt
  have hlw := HC1.out.R.ltw
  have hbase : base ≤ W.heap.size := Nat.le_of_lt (Nat.lt_of_le_of_lt (HC.out.R.lo wb (by rw [HC.out.R.kw]; decide)).1 hlw)
  have hs5 := T1.sl
  have i3 : (0 : Int) ≤ (s : Int) := by omega
  have i4 : (s : Int) < 64 := by omega
  have HLEN := Lib.hid hlen
  have HEO := Lib.hid eo
  have HPA : Hid (∀ w', PutAt W wb base V Q kd (64 * 3 + s) t w' → PutAt W wb base V Q kd (64 * 3 + s) t w') := Lib.hid fun _ h => h
  clear ca c4 c5 f4 f5 cf T1 T2 K0 hlen eo hVw hVt tl d0 d0' d1 d1' d2 d2' d3 d3'
  generalize hv : V (64 * 3 + s) = v at hcv hrow HF HV HVt
  clear hv
  generalize (Q (64 * 3 + s)).length = n at hrow HF HLEN
  generalize (Q (64 * 3 + s)).map ptr = xs at hrow HF
  have HOW : Hid (∀ W', Kept (fun _ => False) W W' → W'.ownsRow base 90 1 v n xs ∧ base ≤ W'.heap.size) := Lib.hid fun W' k => ⟨ownsRow_kept hrow.out k (fun _ _ _ h => h), Nat.le_trans hbase k.size⟩
  have HST : Hid (∀ W' wn, Kept (fun _ => False) W W' → Kept (fun b => v.ownBlock = some b) W' wn → wn.cell? ⟨wb, 197 + s, none⟩ = some v ∧ wn.frozen? ⟨wb, 197 + s, none⟩ = false ∧ wb < wn.heap.size ∧ wn.cell? ⟨t.b, 5, none⟩ = some (.int .i64 s) ∧ t.b < wn.heap.size) := Lib.hid fun W' wn k1 k2 => by
    have k : Kept (fun b => v.ownBlock = some b) W wn := (k1.mono (T := fun b => v.ownBlock = some b) (fun _ _ h => h.elim)).trans k2 (fun _ _ h => h)
    exact ⟨(k.cell (a := ⟨wb, 197 + s, none⟩) hlw HV.out).trans hcv, (k.frozen (a := ⟨wb, 197 + s, none⟩) hlw HV.out).trans hfz, Nat.lt_of_lt_of_le hlw k.size, (k.cell (a := ⟨t.b, 5, none⟩) hlt HVt.out).trans hs5, Nat.lt_of_lt_of_le hlt k.size⟩
  go_upto_region 5 with fail
  go_cut [] from 38 to 61 (fun wz => PutAt W wb base V Q kd (64 * 3 + s) t wz)
  case first =>
    go_region_law (first | (refine step_one rfl (.tmp 54) (.tmp 56) rfl el77 base v _ _ _ [ptr t] rfl rfl (HOW.out _ (by repeat (first | exact Kept.refl _ _ | refine Kept.alloc ?_ _ | refine Kept.drew ?_))).1 rfl (fun j u hj => by cases j with | zero => (simp at hj; subst hj; first | (simp [ptr]; done) | (go_simp; done)) | succ j => simp at hj) (ptr_one t) HLEN.out (by decide) (HOW.out _ (by repeat (first | exact Kept.refl _ _ | refine Kept.alloc ?_ _ | refine Kept.drew ?_))).2 ?_; intro g cap wn on kn og ltg; obtain ⟨n1, n2, n3, n4, n5⟩ := HST.out _ wn (by repeat (first | exact Kept.refl _ _ | refine Kept.alloc ?_ _ | refine Kept.drew ?_)) kn; have HPP := Lib.hid (HF.out _ wn g cap (by repeat (first | exact Kept.refl _ _ | refine Kept.alloc ?_ _ | refine Kept.drew ?_)) on kn og)))
    all_goals
      go_wp2_with fail
      go_meet
      exact HPP.out.same (by repeat (first | exact Kept.refl _ _ | refine Kept.alloc ?_ _ | refine Kept.drew ?_))
  case rest =>
    have HP := Lib.hid hcut
    obtain ⟨u, hu, hc, -⟩ := HC1.out.U.word 3 (by omega)
    have hc2 := (HP.out.oth (261 + 3) (fun j hj => by have := off_lt hj; omega)).trans hc
    have hf2 := HP.out.fz (261 + 3)
    have hwc : wb < wc.heap.size := Nat.lt_of_lt_of_le hlw HP.out.K.size
    have hs6 : wc.cell? ⟨t.b, 5, none⟩ = some (.int .i64 s) := by
      refine (HP.out.K.cell (a := ⟨t.b, 5, none⟩) hlt (fun h => ?_)).trans hs5
      rcases h with h | h
      · exact hwt h.symm
      · have h1 := HC.out.R.kV _ (by omega) t.b h
        have h2 := HK.out
        omega
    have htc : t.b < wc.heap.size := Nat.lt_of_lt_of_le hlt HP.out.K.size
    have HFF := Lib.hid (place_fin (L := 3) (s := s) HC1.out (by omega) hs64 HK0.out HK.out lw HP.out hu hc)
    clear hcut hs5 hfz hcv hc
    simp only [Nat.reduceAdd] at hc2 hf2 HFF
    go_wp2
    go_region
    go_wp2
    (try simp only [Exit.inBlock, Exit.then]); refine bodyPost_ret (results_none rfl _ _ _) rfl ?_
    exact ⟨rfl, HFF.out.same (by repeat (first | exact Kept.refl _ _ | refine Kept.alloc ?_ _ | refine Kept.drew ?_))⟩
end Go.Proofs.YtjlcchjcppkbjaaDoor
