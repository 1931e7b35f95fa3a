/- WhPlL4: texts for the statements of this seat: contracts of functions, walks, plain laws. Conditions: none. -/
import Derived.Deep.QuietTactic
import Derived.BigQuiet
import Derived.Deep.RegionLaw
import Derived.Deep.Cut
import Derived.Deep.CutRange
import Derived.Deep.DeepCutAuto
import Derived.Test.YtjlcchjcppkbjaaDoorWhM
set_option linter.all false
/- place: a timer is put where it belongs; a theorem for each level. (Printed by gen_place.py.) -/
namespace Go.Proofs.YtjlcchjcppkbjaaDoor
open Go.RowKit
variable {w W w' : World} {wb base : Nat} {V : Nat → Value} {Q : Nat → List Pt} {kd : Nat → Nat} {fr : Int} {i : Nat} {t : Pt}
set_option maxRecDepth 100000 in
set_option maxHeartbeats 4000000 in
theorem place_4 (C : Core w wb base V Q kd fr) (t : Pt) (lv sl : Int) (T : TmAt w t lv sl) (hk : kd t.b = 400) (hnew : ∀ j, j < 257 → ∀ u ∈ Q j, u.b ≠ t.b) (hf0 : 0 ≤ fr) (hf1 : fr ≤ 4611686018427387905) (hx0 : 0 ≤ t.x.at_) (hx1 : t.x.at_ ≤ 4611686018427387904) (hlen : (Q 256).length ≤ 1000000) (h0 : t.x.at_ / 64 ≠ fr / 64) (h1 : t.x.at_ / 4096 ≠ fr / 4096) (h2 : t.x.at_ / 262144 ≠ fr / 262144) (h3 : t.x.at_ / 16777216 ≠ fr / 16777216) :
    Calls Tryd.prog 41 #[.pointer (some ⟨wb, 0, none⟩), .pointer (some ⟨t.b, 0, none⟩)] w fun e w' => e = .returned (.tuple #[]) ∧ PlacePost w wb base V Q kd fr 256 t w' := by
  have d0 : (t.x.at_ / 64 != fr / 64) = true := by simpa using h0
  have d0' : (t.x.at_ / 64 == fr / 64) = false := by simpa using h0
  have d1 : (t.x.at_ / 4096 != fr / 4096) = true := by simpa using h1
  have d1' : (t.x.at_ / 4096 == fr / 4096) = false := by simpa using h1
  have d2 : (t.x.at_ / 262144 != fr / 262144) = true := by simpa using h2
  have d2' : (t.x.at_ / 262144 == fr / 262144) = false := by simpa using h2
  have d3 : (t.x.at_ / 16777216 != fr / 16777216) = true := by simpa using h3
  have d3' : (t.x.at_ / 16777216 == fr / 16777216) = false := by simpa using h3
  have hs64 : 256 < 257 := by omega
  have cf := C.fr
  have ca := T.at_
  have c4 := T.lv
  have c5 := T.sl
  have f4 := T.fz 4
  have f5 := T.fz 5
  have tl := T.lt
  have lw := C.R.ltw
  have hwt : wb ≠ t.b := fun e => by have h := C.R.kw; rw [e, hk] at h; omega
  have HC := Lib.hid C
  have HT := Lib.hid T
  have HK := Lib.hid hk
  have HN := Lib.hid hnew
  clear C T hk hnew h0 h1 h2 h3
  go_enter Tryd.func41, Tryd.ntmps41
  go_wp2
  refine wp_loop_rounds 5 ?_
  rw [rounds_succ]
  go_wp2
  go_quiet (fail)
  obtain ⟨m0, rfl⟩ : ∃ m, m = nq := ⟨_, rfl⟩
  go_wp2
  rw [rounds_succ]
  go_wp2
  go_quiet (fail)
  obtain ⟨m1, rfl⟩ : ∃ m, m = nq := ⟨_, rfl⟩
  go_wp2
  rw [rounds_succ]
  go_wp2
  go_quiet (fail)
  obtain ⟨m2, rfl⟩ : ∃ m, m = nq := ⟨_, rfl⟩
  go_wp2
  rw [rounds_succ]
  go_wp2
  go_quiet (fail)
  obtain ⟨m3, rfl⟩ : ∃ m, m = nq := ⟨_, rfl⟩
  go_wp2
  rw [rounds_succ]
  go_upto_region 9 with fail
  have K0 : Kept (fun b => b = t.b) w (World.setCell (World.drewN w (((m0 + m1) + m2) + m3)) ⟨t.b, 4, none⟩ (.int .i64 4)) := ((Kept.refl (fun b => b = t.b) w).drewN (((m0 + m1) + m2) + m3)).setCell _ _ (fun _ => rfl)
  have T1 : TmAt (World.setCell (World.drewN w (((m0 + m1) + m2) + m3)) ⟨t.b, 4, none⟩ (.int .i64 4)) t 4 sl := (HT.out.kept ((Kept.refl (fun _ => False) w).drewN (((m0 + m1) + m2) + m3)) (fun h => h)).setLv 4
  generalize World.setCell (World.drewN w (((m0 + m1) + m2) + m3)) ⟨t.b, 4, none⟩ (.int .i64 4) = W at K0 T1 ⊢
  have HC1 := Lib.hid (HC.out.marked HT.out HK.out HN.out K0)
  have HK0 := Lib.hid K0
  have T2 : TmIn W t 256 := ⟨sl, T1, fun h => by omega⟩
  have HF := Lib.hid (put_fin HC1.out.R HC1.out.fz (by omega) T2 HK.out HN.out)
  have eo : off 256 = 265 := by unfold off; rfl
  have hcv := HC1.out.R.cell 256 (by omega)
  rw [eo] at HF hcv
  have hrow := Lib.hid (HC1.out.R.row 256 (by omega))
  have hVw : (V 256).ownBlock ≠ some wb := fun e => by have := HC.out.R.kV _ (by omega) wb e; rw [HC.out.R.kw] at this; omega
  have hVt : (V 256).ownBlock ≠ some t.b := fun e => by have h1 := HC.out.R.kV _ (by omega) t.b e; have h2 := HK.out; omega
  have HV := Lib.hid hVw
  have HVt := Lib.hid hVt
  have hfz := HC1.out.fz (265)
  have hlt := T1.lt
  have hlw := HC1.out.R.ltw
  have hbase : base ≤ W.heap.size := Nat.le_of_lt (Nat.lt_of_le_of_lt (HC.out.R.lo wb (by rw [HC.out.R.kw]; decide)).1 hlw)
  have HLEN := Lib.hid hlen
  have HEO := Lib.hid eo
  have HPA : Hid (∀ w', PutAt W wb base V Q kd 256 t w' → PutAt W wb base V Q kd 256 t w') := Lib.hid fun _ h => h
  clear ca c4 c5 f4 f5 cf T1 T2 K0 hlen eo hVw hVt tl d0 d0' d1 d1' d2 d2' d3 d3'
  generalize hv : V 256 = v at hcv hrow HF HV HVt
  clear hv
  generalize (Q 256).length = n at hrow HF HLEN
  generalize (Q 256).map ptr = xs at hrow HF
  have hrw : (World.alloc W (.cells #[ptr t] 90)).ownsRow base 90 1 v n xs := hrow.out.alloc _
  have HST : Hid (∀ wn, Kept (fun b => v.ownBlock = some b) (W.alloc (.cells #[ptr t] 90)) wn → wn.cell? ⟨wb, 265, none⟩ = some v ∧ wn.frozen? ⟨wb, 265, none⟩ = false ∧ wb < wn.heap.size) := Lib.hid fun wn k2 => by
    have k : Kept (fun b => v.ownBlock = some b) W wn := ((Kept.refl (fun b => v.ownBlock = some b) W).alloc _).trans k2 (fun _ _ h => h)
    exact ⟨(k.cell (a := ⟨wb, 265, none⟩) hlw HV.out).trans hcv, (k.frozen (a := ⟨wb, 265, none⟩) hlw HV.out).trans hfz, Nat.lt_of_lt_of_le hlw k.size⟩
  have HR := Lib.hid hrw
  clear hrw
  go_wp2_with (at_builtin; refine wpList_one rfl (.tmp 85) (.tmp 87) rfl el77 base v n xs W.heap.size [ptr t] rfl rfl HR.out rfl ?c1 (ptr_one t) HLEN.out (by decide) ?c2 ?_)
  case c1 =>
    intro j u hj
    rw [show W.alloc (.cells #[.pointer (some ⟨t.b, 0, none⟩)] 90) = W.alloc (.cells #[ptr t] 90) from rfl, World.cell?_alloc_at _ _ _ _ rfl]
    simpa using hj
  case c2 => simp; omega
  intro g cap wn on kn og ltg
  obtain ⟨n1, n2, n3⟩ := HST.out wn kn
  have HPP := Lib.hid (HF.out _ wn g cap ((Kept.refl _ W).alloc (.cells #[ptr t] 90)) on kn (og.imp_right fun q => by simpa using q))
  have HFF := Lib.hid (place_fin_far HC1.out HK0.out HK.out lw HPP.out)
  clear hcv hfz on kn og
  go_wp2
  go_end0
  exact ⟨rfl, HFF.out⟩
end Go.Proofs.YtjlcchjcppkbjaaDoor
