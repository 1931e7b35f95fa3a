/- WhCp: texts for the statements of this seat: contracts of functions, walks, plain laws. Conditions: none. -/
import Derived.Deep.RegionHeld3
import Derived.Deep.Cut
import Derived.Deep.CutRange
import Derived.Deep.DeepCutAuto
import Derived.Test.YtjlcchjcppkbjaaDoorWhAdvC
import Derived.Test.YtjlcchjcppkbjaaDoorWaAll
set_option linter.all false
/- Copy: the states. -/
namespace Go.Proofs.YtjlcchjcppkbjaaDoor
open Go.RowKit
variable {w w' : World} {base wb ab sb cap mb : Nat} {kd kd' : Nat → Nat} {fr now seq : Int} {a a' : AA} {ts : List Pt}
theorem ins_last {x : Tm} {l : List Tm} (h : ∀ y ∈ l, y.at_ ≤ x.at_) : ins x l = l ++ [x] := by
  unfold ins
  have h1 : due x.at_ l = l ∧ rest x.at_ l = [] := by
    induction l with
    | nil => exact ⟨rfl, rfl⟩
    | cons y l ih =>
      obtain ⟨i1, i2⟩ := ih fun z hz => h z (by simp [hz])
      have hy : decide (y.at_ ≤ x.at_) = true := by simpa using h y (by simp)
      unfold due rest at *
      rw [List.takeWhile_cons, List.dropWhile_cons, if_pos hy, if_pos hy, i1, i2]
      exact ⟨rfl, rfl⟩
  rw [h1.1, h1.2]
/-- A new wheel with another's numbers. -/
def CpNew (w : World) (fr now seq : Int) (a : AA) (v : Value) (wz : World) : Prop := ∃ B ab sb cap mb kd, v = .pointer (some ⟨B, 0, none⟩) ∧ WMem wz w.heap.size B ab sb cap mb kd fr now seq a [] [] ∧ MapN Tryd.prog 30 readB datB wz mb 0 0 (fun _ => none) ∧ Kept (fun _ => False) w wz
theorem CpNew.same {w wz w2 : World} {v : Value} (h : CpNew w fr now seq a v wz) (K : Kept (fun _ => False) wz w2) : CpNew w fr now seq a v w2 := by
  obtain ⟨B, ab, sb, cap, mb, kd, h1, h2, h3, h4⟩ := h
  exact ⟨B, ab, sb, cap, mb, kd, h1, h2.same K, h3.kept K (fun h => h), h4.trans K (fun _ _ h => h)⟩
/-- The wheel's cells, laid. -/
noncomputable def cpCells (now fr seq : Int) (ab mb : Nat) : Array Value := ((((Tryd.zeroCells83.setIfInBounds 0 (.int .i64 now)).setIfInBounds 1 (.int .i64 fr)).setIfInBounds 2 (.int .i64 seq)).setIfInBounds 3 (.pointer (some ⟨ab, 0, none⟩))).setIfInBounds 4 (.map (some mb))
theorem cpNew {w w2 : World} (hs : 0 ≤ seq) (K : Kept (fun _ => False) w w2) (I : IsA w2 ab sb cap a) (Mp : MapN Tryd.prog 30 readB datB w2 mb 0 0 (fun _ => none)) (h1 : w.heap.size ≤ ab) (h2 : w.heap.size ≤ sb) (h3 : w.heap.size ≤ mb) (hd : ab ≠ sb ∧ ab ≠ mb ∧ sb ≠ mb) :
    CpNew w fr now seq a (.pointer (some ⟨w2.heap.size, 0, none⟩)) (w2.alloc (.cells (cpCells now fr seq ab mb) 83)) := by
  have hla := I.lta
  have hls := I.lts
  have hlm := Mp.lt
  have hz := zero83_size
  obtain ⟨Z, hZ⟩ : ∃ Z, cpCells now fr seq ab mb = Z := ⟨_, rfl⟩
  rw [hZ]
  unfold cpCells at hZ
  have hc : ∀ o, (w2.alloc (Obj.cells Z 83)).cell? ⟨w2.heap.size, o, none⟩ = Z[o]? := fun o => World.cell?_alloc_at _ _ _ _ rfl
  have hf : ∀ o, (w2.alloc (Obj.cells Z 83)).frozen? ⟨w2.heap.size, o, none⟩ = false := fun o => World.frozen?_alloc_at _ _ _ _ rfl
  have KA : Kept (fun _ => False) w2 (w2.alloc (Obj.cells Z 83)) := (Kept.refl _ w2).alloc _
  have hw := K.size
  obtain ⟨kd, -, M⟩ := fresh_mem (w := w2.alloc (Obj.cells Z 83)) (base := w.heap.size) (B := w2.heap.size) (ab := ab) (sb := sb) (cap := cap) (mb := mb) (fr := fr) (now := now) (seq := seq) (a := a)
    (by simp) (by omega) (by omega) hf
    (by rw [hc, ← hZ]; simp [hz]) (by rw [hc, ← hZ]; simp [hz]) (by rw [hc, ← hZ]; simp [hz]) (by rw [hc, ← hZ]; simp [hz]) (by rw [hc, ← hZ]; simp [hz])
    (fun o ho1 ho2 => by
      rw [hc, ← hZ]
      rw [Array.getElem?_setIfInBounds_ne (by omega), Array.getElem?_setIfInBounds_ne (by omega), Array.getElem?_setIfInBounds_ne (by omega), Array.getElem?_setIfInBounds_ne (by omega), Array.getElem?_setIfInBounds_ne (by omega)]
      exact zero83_get o ho2)
    hs (I.kept KA (fun h => h) (fun h => h)) (Mp.kept KA (fun h => h))
  exact ⟨_, _, _, _, _, kd, rfl, M, Mp.kept KA (fun h => h), K.trans KA (fun _ _ h => h)⟩
theorem cpA {w w5 : World} {cb sb2 cap2 : Nat} (hs : 0 ≤ seq) (I5 : IsA w5 cb sb2 cap2 a) (K5 : Kept (fun _ => False) w.drew w5) (l1 : w.drew.heap.size ≤ cb) (l2 : w.drew.heap.size ≤ sb2) (hne : cb ≠ sb2) :
    CpNew w fr now seq a (.pointer (some ⟨w5.heap.size + 1, 0, none⟩)) ((w5.alloc (.map #[] 0)).alloc (.cells (((((Tryd.zeroCells83.setIfInBounds 0 (.int .i64 now)).setIfInBounds 1 (.int .i64 fr)).setIfInBounds 2 (.int .i64 seq)).setIfInBounds 3 (.pointer (some ⟨cb, 0, none⟩))).setIfInBounds 4 (.map (some w5.heap.size))) 83)) := by
  have hla := I5.lta
  have hls := I5.lts
  have hw : w.heap.size ≤ w5.heap.size := K5.size
  have := cpNew (w := w) (w2 := w5.alloc (.map #[] 0)) (fr := fr) (now := now) hs ((((Kept.refl _ w).drew).trans K5 (fun _ _ h => h)).alloc _) (I5.kept ((Kept.refl (fun _ => False) w5).alloc _) (fun h => h) (fun h => h)) (MapN.made w5 Tryd.prog 30 readB datB) l1 l2 hw ⟨hne, by omega, by omega⟩
  rw [World.size_alloc] at this
  exact this
theorem cpB {w w5 : World} {cb sb2 cap2 : Nat} (hs : 0 ≤ seq) (I5 : IsA w5 cb sb2 cap2 a) (K5 : Kept (fun _ => False) (w.alloc (.map #[] 0)).drew w5) (l1 : (w.alloc (.map #[] 0)).drew.heap.size ≤ cb) (l2 : (w.alloc (.map #[] 0)).drew.heap.size ≤ sb2) (hne : cb ≠ sb2) :
    CpNew w fr now seq a (.pointer (some ⟨w5.heap.size, 0, none⟩)) (w5.alloc (.cells (((((Tryd.zeroCells83.setIfInBounds 0 (.int .i64 now)).setIfInBounds 1 (.int .i64 fr)).setIfInBounds 2 (.int .i64 seq)).setIfInBounds 3 (.pointer (some ⟨cb, 0, none⟩))).setIfInBounds 4 (.map (some w.heap.size))) 83)) := by
  have e : (w.alloc (.map #[] 0)).drew.heap.size = w.heap.size + 1 := World.size_alloc w _
  have K : Kept (fun _ => False) w w5 := (((Kept.refl _ w).alloc _).drew).trans K5 (fun _ _ h => h)
  have Kd : Kept (fun _ => False) (w.alloc (.map #[] 0)) w5 := ((Kept.refl _ _).drew).trans K5 (fun _ _ h => h)
  exact cpNew (w := w) (w2 := w5) (fr := fr) (now := now) hs K I5 ((MapN.made w Tryd.prog 30 readB datB).kept Kd (fun h => h)) (by omega) (by omega) (Nat.le_refl _) ⟨hne, by omega, by omega⟩
theorem IsA.ne {w : World} {ab sb cap : Nat} {a : AA} (I : IsA w ab sb cap a) : ab ≠ sb := let ⟨_, i, _⟩ := I; i.ne
/-- k timers are copied. -/
structure Cpy (w : World) (B ab sb cap mb : Nat) (fr now seq : Int) (a : AA) (ts : List Pt) (vl : Value) (k : Nat) (wr : World) : Prop where
  ex : ∃ kd tsc, WMem wr w.heap.size B ab sb cap mb kd fr now seq a tsc tsc ∧ MapN Tryd.prog 30 readB datB wr mb k tsc.length (gm tsc) ∧ tsc.map Pt.x = (ts.take k).map Pt.x ∧ ∀ b, vl.ownBlock = some b → kd b = 0
  row : Ptrs wr vl ts
  K : Kept (fun _ => False) w wr
theorem cpy_step {B k : Nat} {vl : Value} {wr w5 : World} {t : Pt} {lv sl : Int} (h : Cpy w B ab sb cap mb fr now seq a ts vl k wr) (ht : ts[k]? = some t) (hts : ts.length ≤ 4096) (hsrt : (ts.map Pt.x).Pairwise Tm.lt) (hnd : (ts.map fun t => t.x.h).Nodup) (hseq : 0 ≤ seq) (hf0 : 0 ≤ fr) (hf1 : fr ≤ 4611686018427387905) (hr : fr ≤ t.x.at_ ∧ t.x.at_ ≤ 4611686018427387904)
    (T : TmAt w5 ⟨t.x, wr.heap.size⟩ lv sl) (K : Kept (fun _ => False) wr w5) :
    ∃ tsc : List Pt, MapN Tryd.prog 30 readB datB w5 mb k k (gm tsc) ∧ gm tsc t.x.h = none ∧ w5.cell? ⟨B, 4, none⟩ = some (.map (some mb)) ∧ B < w5.heap.size ∧
      ∀ w6, MapN Tryd.prog 30 readB datB w6 mb (k + 1) (k + 1) (fun s => if s = t.x.h then some (some wr.heap.size) else gm tsc s) → Kept (fun i => i = mb) w5 w6 →
        Calls Tryd.prog 41 #[.pointer (some ⟨B, 0, none⟩), .pointer (some ⟨wr.heap.size, 0, none⟩)] w6 fun e w7 => e = .returned (.tuple #[]) ∧ Cpy w B ab sb cap mb fr now seq a ts vl (k + 1) w7 := by
  obtain ⟨⟨kd, tsc, M, Mp, hx, hv⟩, hrow, HK⟩ := h
  have hk : k < ts.length := by
    by_cases e : k < ts.length
    · exact e
    · rw [List.getElem?_eq_none (by omega)] at ht; cases ht
  have hlen : tsc.length = k := by
    have := congrArg List.length hx
    rw [List.length_map, List.length_map, List.length_take] at this
    omega
  have hh : tsc.map (fun u => u.x.h) = (ts.take k).map fun u => u.x.h := by
    have := congrArg (List.map Tm.h) hx
    rw [List.map_map, List.map_map] at this
    exact this
  have hspl : ts = ts.take k ++ t :: ts.drop (k + 1) := by
    have h1 := List.drop_eq_getElem_cons hk
    rw [List.getElem?_eq_getElem hk] at ht
    injection ht with ht
    rw [ht] at h1
    rw [← h1, List.take_append_drop]
  have hnew : ∀ u ∈ tsc, u.x.h ≠ t.x.h := fun u hu e => by
    have h1 : u.x.h ∈ (ts.take k).map fun u => u.x.h := by rw [← hh]; exact List.mem_map.2 ⟨u, hu, rfl⟩
    rw [hspl, List.map_append, List.map_cons, List.nodup_append] at hnd
    exact hnd.2.2 _ h1 _ (by simp) e
  have hndc : (tsc.map fun u => u.x.h).Nodup := by
    rw [hh]
    rw [hspl, List.map_append, List.nodup_append] at hnd
    exact hnd.1
  have hle : ∀ y ∈ tsc.map Pt.x, y.at_ ≤ t.x.at_ := fun y hy => by
    rw [hx] at hy
    rw [hspl, List.map_append, List.map_cons, List.pairwise_append] at hsrt
    have := hsrt.2.2 y hy t.x (by simp)
    unfold Tm.lt at this
    omega
  have hlo := M.lo
  have hk0 : kd wr.heap.size = 0 := by
    by_cases e : kd wr.heap.size = 0
    · exact e
    · have := (hlo _ e).2; omega
  have M5 := M.same K
  have Mp5 := Mp.kept K (fun h => h)
  rw [hlen] at Mp5
  have hHK := HK.size
  refine ⟨tsc, Mp5, gm_none.2 hnew, M5.c4, M5.ltw, fun w6 m6 k6 => ?_⟩
  refine (insert_c (t := ⟨t.x, wr.heap.size⟩) M5 T hHK hk0 hf0 hf1 hr.1 hr.2 (by omega) hnew hndc (n := k) (by omega) (by rw [hlen]; exact m6) k6).mono ?_
  rintro e w7 ⟨rfl, kd', M7, Mp7, hk7, K7⟩
  have Kr7 : Kept (fun b => kd b ≠ 0 ∨ b = wr.heap.size) wr w7 := (K.mono (fun _ _ h => h.elim)).trans K7 (fun _ _ h => h)
  obtain ⟨g, c', hgv, hgc, hgl⟩ := hrow.get k t ht
  have hob : ∀ b, vl.ownBlock = some b → b = g := fun b hb => by
    rw [hgv] at hb
    injection hb with hb
    exact hb.symm
  refine ⟨rfl, ⟨kd', _, M7, by rw [insP_length, hlen]; rw [hlen] at Mp7; exact Mp7, ?_, fun b hb => ?_⟩, hrow.kept Kr7 (fun b hb q => ?_), HK.trans Kr7 (fun b hb q => ?_)⟩
  · rw [insP_x, ins_last hle, hx, List.take_add_one, ht]
    simp
  · have hb1 := hob b hb
    have := hv b hb
    rw [hk7 b (Nat.lt_of_lt_of_le (by omega) K.size) (fun (e : b = wr.heap.size) => by omega)]
    exact this
  · have hb1 := hob b hb
    rcases q with q | q
    · exact q (hv b hb)
    · omega
  · rcases q with q | q
    · have := (hlo b q).1; omega
    · omega
end Go.Proofs.YtjlcchjcppkbjaaDoor
/- Copy. -/
namespace Go.Proofs.YtjlcchjcppkbjaaDoor
open Go.RowKit
variable {w w' : World} {base wb ab sb cap mb : Nat} {kd kd' : Nat → Nat} {fr now seq : Int} {a a' : AA} {ts : List Pt}
def WCopyPost (w : World) (fr now seq : Int) (a : AA) (ts : List Pt) (e : Ending) (w' : World) : Prop := ∃ B ab sb cap mb kd tsc, e = .returned (.pointer (some ⟨B, 0, none⟩)) ∧ WMem w' w.heap.size B ab sb cap mb kd fr now seq a tsc tsc ∧ tsc.map Pt.x = ts.map Pt.x ∧ Kept (fun _ => False) w w'
set_option maxRecDepth 100000 in
set_option maxHeartbeats 8000000 in
theorem copy_go (h : WMem w base wb ab sb cap mb kd fr now seq a ts ts) (hts : ts.length ≤ 4096) (hsrt : (ts.map Pt.x).Pairwise Tm.lt) (hnd : (ts.map fun t => t.x.h).Nodup) (hh : ∀ t ∈ ts, 0 ≤ t.x.h ∧ t.x.h ≤ 8796093026303) (hseq : 0 ≤ seq) (hf0 : 0 ≤ fr) (hf1 : fr ≤ 4611686018427387905) :
    Calls Tryd.prog 26 #[.pointer (some ⟨wb, 0, none⟩)] w (WCopyPost w fr now seq a ts) := by
  have HV := Lib.hid (valid_c h)
  have c0 := h.c0
  have c1 := h.c1
  have c2 := h.c2
  have c3 := h.c3
  have lw := h.ltw
  have hmm := @run_makeMap Tryd.prog
  have HS0 : Hid (∀ W, Kept (fun _ => False) w W → W.cell? ⟨wb, 0, none⟩ = some (.int .i64 now) ∧ W.cell? ⟨wb, 1, none⟩ = some (.int .i64 fr) ∧ W.cell? ⟨wb, 2, none⟩ = some (.int .i64 seq) ∧ W.cell? ⟨wb, 3, none⟩ = some (.pointer (some ⟨ab, 0, none⟩)) ∧ wb < W.heap.size) := Lib.hid fun W k => by
    have g := h.same k
    exact ⟨g.c0, g.c1, g.c2, g.c3, g.ltw⟩
  have HCP : Hid (∀ W, Kept (fun _ => False) w W → Calls Tryd.prog 53 #[.pointer (some ⟨ab, 0, none⟩)] W (CopiesAt W a)) := Lib.hid fun W k => copy_a (h.same k).ar
  have HSR : Hid (∀ W, Kept (fun _ => False) w W → Calls Tryd.prog 51 #[.pointer (some ⟨wb, 0, none⟩)] W (SortedPost W ts)) := Lib.hid fun W k => sorted_c (h.same k) hts hsrt hnd hh
  have HTM : Hid (∀ t ∈ ts, ∃ i, TmIn w t i) := Lib.hid fun t ht => ⟨_, (h.tm ht).2⟩
  have HST := Lib.hid hsrt
  have HND := Lib.hid hnd
  have HHH := Lib.hid hh
  have HRG : Hid (∀ t ∈ ts, fr ≤ t.x.at_ ∧ t.x.at_ ≤ 4611686018427387904) := Lib.hid (let ⟨_, _, _, M⟩ := h.core; M.rng)
  clear h hsrt hnd hh
  go_enter Tryd.func26, Tryd.ntmps26
  go_wp2_with (go_at_call 39; refine HV.out.mono ?_; rintro e w' ⟨rfl, hww⟩; obtain rfl := hww.symm)
  go_upto_region 3 with fail
  go_cut [3] from 10 to 29 (fun s3 wz => CpNew w fr now seq a s3 wz)
  case first =>
    go_region_held3 (fun W => W.cell? ⟨wb, 0, none⟩ = some (.int .i64 now) ∧ W.cell? ⟨wb, 1, none⟩ = some (.int .i64 fr) ∧ W.cell? ⟨wb, 2, none⟩ = some (.int .i64 seq) ∧ W.cell? ⟨wb, 3, none⟩ = some (.pointer (some ⟨ab, 0, none⟩)) ∧ wb < W.heap.size) (exact HS0.out _ (by repeat (first | exact Kept.refl _ _ | exact HK5.out | refine Kept.alloc ?_ _ | refine Kept.drew ?_))) (first | (go_at_call 53; refine (HCP.out _ (by repeat (first | exact Kept.refl _ _ | refine Kept.alloc ?_ _ | refine Kept.drew ?_))).mono ?_; rintro e w5 ⟨cb, sb2, cap2, rfl, I5, K5, l1, l2⟩; have HK5 : Hid (Kept (fun _ => False) w w5) := Lib.hid (Kept.trans (by repeat (first | exact Kept.refl _ _ | refine Kept.alloc ?_ _ | refine Kept.drew ?_)) K5 (fun _ _ h => h))))
    all_goals
      go_wp2_with fail
      go_meet
      first | exact (cpA hseq I5 K5 l1 l2 I5.ne).same (by repeat (first | exact Kept.refl _ _ | refine Kept.drew ?_)) | exact (cpB hseq I5 K5 l1 l2 I5.ne).same (by repeat (first | exact Kept.refl _ _ | refine Kept.drew ?_))
  case rest =>
    obtain ⟨B, ab2, sb2, cap2, mb2, kd2, rfl, hM, hmp, hK⟩ := ‹CpNew _ _ _ _ _ _ _›
    have HI0 := Lib.hid hM
    have HMP0 := Lib.hid hmp
    have HK0 := Lib.hid hK
    have HS1 := Lib.hid (HSR.out _ hK)
    clear hM hmp hK
    go_wp2_with fail
    refine HS1.out.mono ?_
    rintro e w4 ⟨v, rfl, hptr, K4, hfresh⟩
    obtain ⟨p, c, rfl⟩ := hptr.len
    have HC0 : Hid (Cpy w B ab2 sb2 cap2 mb2 fr now seq a ts (.slice p ts.length c) 0 w4) := Lib.hid ⟨⟨kd2, [], HI0.out.same K4, HMP0.out.kept K4 (fun h => h), by simp, fun b hb => by
      by_cases e : kd2 b = 0
      · exact e
      · have := (HI0.out.lo b e).2; have := hfresh b hb; omega⟩, hptr, HK0.out.trans K4 (fun _ _ h => h)⟩
    clear hptr K4 hfresh HS1 HI0 HMP0 HK0
    go_wp2_with fail
    go_loopw [33] (fun s33 wr => ∃ (k : Nat), k ≤ ts.length ∧ s33 = .int .i64 k ∧ Cpy w B ab2 sb2 cap2 mb2 fr now seq a ts (.slice p ts.length c) k wr) (fun s33 _ => ts.length - (intOf s33).toNat)
    case atStart => exact ⟨0, Nat.zero_le _, rfl, HC0.out⟩
    case round =>
      obtain ⟨k, hk, rfl, hcp⟩ := hrel
      have HCp := Lib.hid hcp
      clear hcp
      by_cases hlt : k < ts.length
      · obtain ⟨t, ht⟩ : ∃ t, ts[k]? = some t := ⟨_, List.getElem?_eq_getElem hlt⟩
        obtain ⟨g, c', hv, hcell, hg⟩ := HCp.out.row.get k t ht
        injection hv with hv1 hv2 hv3
        subst hv1
        obtain ⟨i, sl, T, -⟩ := HTM.out t (List.mem_of_getElem? ht)
        have T1 := T.kept HCp.out.K (fun h => h)
        have hcell' : wr.cell? ⟨g, k, none⟩ = some (.pointer (some ⟨t.b, 0, none⟩)) := hcell
        have t0 := T1.at_
        have t1 := T1.id
        have t2 := T1.h
        have t3 := T1.seq
        have t4 := T1.lv
        have t5 := T1.sl
        have tl := T1.lt
        have j1 : (0 : Int) ≤ (k : Int) := by omega
        have j2 : (k : Int) < (ts.length : Int) := by omega
        have HWF : Hid (Wf t.x.h) := Lib.hid (Wf.of (by have := HHH.out t (List.mem_of_getElem? ht); omega) (by have := HHH.out t (List.mem_of_getElem? ht); omega))
        have HST2 : Hid (∀ lv : Int, ∃ tsc : List Pt, ∃ w5, (wr.alloc (.cells #[.int .i64 t.x.at_, .int .i64 t.x.id, .int .i64 t.x.h, .int .i64 t.x.seq, .int .i64 lv, .int .i64 sl] 92)).drew = w5 ∧ MapN Tryd.prog 30 readB datB w5 mb2 k k (gm tsc) ∧ gm tsc t.x.h = none ∧ (w5.cell? ⟨B, 4, none⟩ = some (.map (some mb2)) ∧ B < w5.heap.size ∧ w5.cell? ⟨wr.heap.size, 2, none⟩ = some (.int .i64 t.x.h) ∧ wr.heap.size < w5.heap.size) ∧
            ∀ w6, MapN Tryd.prog 30 readB datB w6 mb2 (k + 1) (k + 1) (fun s => if s = t.x.h then some (some wr.heap.size) else gm tsc s) → Kept (fun i => i = mb2) w5 w6 →
              Calls Tryd.prog 41 #[.pointer (some ⟨B, 0, none⟩), .pointer (some ⟨wr.heap.size, 0, none⟩)] w6 fun e w7 => e = .returned (.tuple #[]) ∧ Cpy w B ab2 sb2 cap2 mb2 fr now seq a ts (.slice (some ⟨g, 0, none⟩) ts.length c) (k + 1) w7) := Lib.hid fun lv => by
          have hnb : ∀ j, ((wr.alloc (.cells #[.int .i64 t.x.at_, .int .i64 t.x.id, .int .i64 t.x.h, .int .i64 t.x.seq, .int .i64 lv, .int .i64 sl] 92)).drew).cell? ⟨wr.heap.size, j, none⟩ = (#[.int .i64 t.x.at_, .int .i64 t.x.id, .int .i64 t.x.h, .int .i64 t.x.seq, .int .i64 lv, .int .i64 sl] : Array Value)[j]? := fun j => World.cell?_alloc_at _ _ _ _ rfl
          have T5 : TmAt ((wr.alloc (.cells #[.int .i64 t.x.at_, .int .i64 t.x.id, .int .i64 t.x.h, .int .i64 t.x.seq, .int .i64 lv, .int .i64 sl] 92)).drew) ⟨t.x, wr.heap.size⟩ lv sl := ⟨hnb 0, hnb 1, hnb 2, hnb 3, hnb 4, hnb 5, fun o => World.frozen?_alloc_at _ _ _ _ rfl, by show wr.heap.size < (wr.alloc _).heap.size; rw [World.size_alloc]; omega, ⟨_, _, heap_alloc_new wr _⟩⟩
          obtain ⟨tsc, q1, q2, q3, q4, q5⟩ := cpy_step HCp.out ht hts HST.out HND.out hseq hf0 hf1 (HRG.out t (List.mem_of_getElem? ht)) T5 ((Kept.refl _ _).alloc _).drew
          exact ⟨tsc, _, rfl, q1, q2, ⟨q3, q4, hnb 2, T5.lt⟩, q5⟩
        have HKM : Hid (k < maxLen) := Lib.hid (by unfold maxLen; omega)
        clear hcell T T1 ht hv2 hv3
        go_wp2_with fail
        obtain ⟨tsc, w5, hw5, q1, q2, ⟨q3, q4, q6, q7⟩, q5⟩ := HST2.out _
        have HQ1 := Lib.hid q1
        have HQ2 := Lib.hid q2
        have HQ5 := Lib.hid q5
        clear q1 q2 q5
        refine wp_region_still_tail 6 (by kernel_rfl) (by kernel_rfl) ?_
        simp only [List.take_succ_cons, List.take_zero, List.drop_succ_cons, List.drop_zero]
        change wpStill _ _ (World.drew _) (fun a' => wpList _ _ _ _ a' (World.drew _)) _ _
        rw [hw5]
        clear t0 t1 t2 t3 t4 t5 hw5
        iterate 6 still_step
        refine wpStill_nil ?_
        refine wpList_storeN (P := Tryd.prog) codeB rfl (.tmp 43) (.tmp 45) (.tmp 6) 76 rfl 90 Tryd.underlying30 Tryd.underlying76 mb2 k k _ rfl HQ1.out HKM.out t.x.h rfl HWF.out HQ2.out (some wr.heap.size) rfl ?_
        intro w6 m6 k6
        have HC6 := Lib.hid (HQ5.out w6 m6 k6)
        clear m6 k6 q3 q4 q6 q7
        go_wp2_with (go_at_call 41; refine HC6.out.mono ?_; rintro e w7 ⟨rfl, hcp7⟩; have HC7 := Lib.hid hcp7; clear hcp7)
        go_roundw
        case rel => exact ⟨k + 1, by omega, by go_num, HC7.out⟩
        case measure => simp [intOf]; omega
      · obtain rfl : k = ts.length := by omega
        go_wp2_with fail
        go_ret
        obtain ⟨⟨kd9, tsc, M, -, hx, -⟩, -, HK9⟩ := HCp.out
        exact ⟨_, _, _, _, _, kd9, tsc, rfl, M, by rw [hx, List.take_length], HK9⟩
def CopyW (w : World) (W : Wh) (e : Ending) (w' : World) : Prop := ∃ B kd2, e = .returned (.pointer (some ⟨B, 0, none⟩)) ∧ IsW w' w.heap.size B kd2 W ∧ Kept (fun _ => False) w w'
theorem wcopy_c {W : Wh} (h : IsW w base wb kd W) : Calls Tryd.prog 26 #[.pointer (some ⟨wb, 0, none⟩)] w (CopyW w W) := by
  obtain ⟨ok, ab, sb, cap, mb, ts, M, hts⟩ := h
  have hlen : ts.length ≤ 4096 := by have := ok.short; rw [← hts, List.length_map] at this; exact this
  have hnd : (ts.map fun u => u.x.h).Nodup := by have := ok.inj; rw [← hts, List.map_map] at this; exact this
  have hnow := ok.now
  have hN : NEVER = 4611686018427387904 := rfl
  refine (copy_go M hlen (by rw [hts]; exact ok.sorted) hnd (fun t ht => by have := ok.hlo (x := t.x) (by rw [← hts]; exact List.mem_map.2 ⟨t, ht, rfl⟩); omega) ok.seq0 (by omega) (by omega)).mono ?_
  rintro e w' ⟨B, ab2, sb2, cap2, mb2, kd2, tsc, rfl, M2, hx, K⟩
  exact ⟨B, kd2, rfl, ⟨ok, ab2, sb2, cap2, mb2, tsc, M2, hx.trans hts⟩, K⟩
end Go.Proofs.YtjlcchjcppkbjaaDoor
