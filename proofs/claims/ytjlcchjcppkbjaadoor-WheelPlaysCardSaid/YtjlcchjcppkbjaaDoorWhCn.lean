/- WhCn: texts for the statements of this seat: contracts of functions, walks, plain laws. Conditions: none. -/
import Derived.Test.YtjlcchjcppkbjaaDoorWhDe
set_option linter.all false
/- A timer is struck out of its list. -/
namespace Go.Proofs.YtjlcchjcppkbjaaDoor
open Go.RowKit
variable {w w2 w' : World} {base wb ab sb cap mb : Nat} {V : Nat → Value} {Q : Nat → List Pt} {kd kd' : Nat → Nat} {fr now seq : Int} {a a' : AA} {ts : List Pt} {t : Pt}
/-- The timers without one. -/
def sans (t : Pt) (ts : List Pt) : List Pt := ts.filter fun u => decide (u.x.h ≠ t.x.h)
theorem mem_sans {ts : List Pt} (hnd : (ts.map fun u => u.x.h).Nodup) {t u : Pt} (ht : t ∈ ts) : u ∈ sans t ts ↔ u ∈ ts ∧ u ≠ t := by
  unfold sans
  rw [List.mem_filter]
  constructor
  · rintro ⟨h1, h2⟩
    exact ⟨h1, fun e => by subst e; simp at h2⟩
  · rintro ⟨h1, h2⟩
    exact ⟨h1, by simpa using fun e => h2 (handle_inj hnd h1 ht e)⟩
theorem mem_strike {l : List Pt} {B : Nat} {u : Pt} : u ∈ strikeB B l ↔ u ∈ l ∧ u.b ≠ B := by
  unfold strikeB
  rw [List.mem_filter]
  simp
theorem sans_length {ts : List Pt} (hnd : (ts.map fun u => u.x.h).Nodup) {t : Pt} (ht : t ∈ ts) : (sans t ts).length + 1 = ts.length := by
  induction ts with
  | nil => simp at ht
  | cons u l ih =>
    rw [List.map_cons, List.nodup_cons] at hnd
    unfold sans at ih ⊢
    rw [List.filter_cons]
    rcases List.mem_cons.1 ht with rfl | hx
    · simp
      intro z hz e
      exact hnd.1 (List.mem_map.2 ⟨z, hz, e⟩)
    · have : u.x.h ≠ t.x.h := fun e => hnd.1 (List.mem_map.2 ⟨t, hx, e.symm⟩)
      simp only [this, ne_eq, not_false_eq_true, decide_true, if_true, List.length_cons]
      have := ih hnd.2 hx
      simp only [ne_eq] at this
      omega
theorem Placed.sans (M : Placed fr ts Q) (hnd : (ts.map fun u => u.x.h).Nodup) (ht : t ∈ ts) : Placed fr (sans t ts) (upd Q (pos fr t.x.at_) (strikeB t.b (Q (pos fr t.x.at_)))) where
  inj := fun u hu v hv e => M.inj u ((mem_sans hnd ht).1 hu).1 v ((mem_sans hnd ht).1 hv).1 e
  sub := fun i hi u hu => by
    by_cases e : i = pos fr t.x.at_
    · subst e
      rw [upd_at, mem_strike] at hu
      obtain ⟨a1, a2⟩ := M.at hi hu.1
      exact ⟨(mem_sans hnd ht).2 ⟨a1, fun e => hu.2 (by rw [e])⟩, by simp, .inl a2⟩
    · rw [upd_ne _ _ e] at hu
      obtain ⟨a1, a2⟩ := M.at hi hu
      exact ⟨(mem_sans hnd ht).2 ⟨a1, fun e2 => e (by rw [e2] at a2; exact a2)⟩, by simp, .inl a2⟩
  all := fun u hu => by
    obtain ⟨h1, h2⟩ := (mem_sans hnd ht).1 hu
    have h3 := M.in_ h1
    refine .inr ⟨pos fr u.x.at_, pos_lt _ _, ?_⟩
    by_cases e : pos fr u.x.at_ = pos fr t.x.at_
    · rw [e, upd_at, mem_strike]
      rw [e] at h3
      exact ⟨h3, fun e2 => h2 (M.inj u h1 t ht e2)⟩
    · rw [upd_ne _ _ e]; exact h3
  hnd := fun u hu => by simp at hu
  nd := by simp
  rng := fun u hu => M.rng u ((mem_sans hnd ht).1 hu).1
/-- The list's row behind DeleteFunc: v' stands where the old value stood. -/
theorem Core.struck (C : Core w wb base V Q kd fr) {i : Nat} (hi : i < 257) {B : Nat} {v' : Value} (K : Kept (fun b => (V i).ownBlock = some b) w w2) (hrow : w2.ownsRow base 90 1 v' (strikeB B (Q i)).length ((strikeB B (Q i)).map ptr)) (hb : ∀ b, v'.ownBlock = some b → (V i).ownBlock = some b) :
    ∃ kd', (∀ b, b < w.heap.size → kd' b = kd b) ∧ Rws (w2.setCell ⟨wb, off i, none⟩ v') wb base (upd V i v') (upd Q i (strikeB B (Q i))) kd' := by
  have hsub : ∀ u, u ∈ strikeB B (Q i) → u ∈ Q i := fun u hu => (mem_strike.1 hu).1
  exact C.R.put hi K hrow (fun b e => .inl (hb b e)) (fun u hu => ⟨(C.R.tm i hi u (hsub u hu)).kept K (fun e => by have := C.R.kV i hi _ e; have := C.R.kT i hi u (hsub u hu); omega), C.R.kT i hi u (hsub u hu)⟩)
    ((C.R.nd i hi).sublist (List.filter_sublist.map _)) (fun j hj hne u hu v hv e => hne (C.R.dj j hj i hi u hu v (hsub v hv) e.symm).1) (fun u hu v hv e => (C.R.dj i hi i hi u (hsub u hu) v (hsub v hv) e).2)
theorem Usd.alike {Q' : Nat → List Pt} (U : Usd w wb Q) (h : ∀ i, i < 256 → (Q' i).isEmpty = (Q i).isEmpty) : Usd w wb Q' := ⟨fun L hL => by
  obtain ⟨u, h1, h2, h3⟩ := U.word L hL
  exact ⟨u, h1, h2, fun j hj => by rw [h _ (by omega)]; exact h3 j hj⟩⟩
theorem Core.struck_core (C : Core w wb base V Q kd fr) {i : Nat} (hi : i < 257) {B : Nat} {v' : Value} (K : Kept (fun b => (V i).ownBlock = some b) w w2) (hrow : w2.ownsRow base 90 1 v' (strikeB B (Q i)).length ((strikeB B (Q i)).map ptr)) (hb : ∀ b, v'.ownBlock = some b → (V i).ownBlock = some b)
    (hne : i < 256 → Q i ≠ [] ∧ strikeB B (Q i) ≠ []) : ∃ kd', (∀ b, b < w.heap.size → kd' b = kd b) ∧ Core (w2.setCell ⟨wb, off i, none⟩ v') wb base (upd V i v') (upd Q i (strikeB B (Q i))) kd' fr ∧ (∀ o, o < 5 → (w2.setCell ⟨wb, off i, none⟩ v').cell? ⟨wb, o, none⟩ = w.cell? ⟨wb, o, none⟩) ∧ Kept (fun b => kd b = 1 ∨ kd b = 5 + i) w (w2.setCell ⟨wb, off i, none⟩ v') := by
  obtain ⟨kd', h1, h2⟩ := C.struck hi K hrow hb
  have hVw : (V i).ownBlock ≠ some wb := fun e => by have := C.R.kV i hi wb e; rw [C.R.kw] at this; omega
  have lw := C.R.ltw
  have ho := off_lt hi
  have hc : ∀ o, o ≠ off i → (w2.setCell ⟨wb, off i, none⟩ v').cell? ⟨wb, o, none⟩ = w.cell? ⟨wb, o, none⟩ := fun o hoo => (cell_set_off _ _ _ _ _ hoo).trans (K.cell (a := ⟨wb, o, none⟩) lw hVw)
  refine ⟨kd', h1, ⟨h2, ⟨fun L hL => ?_⟩, fun o => ?_, (hc 1 (by omega)).trans C.fr⟩, fun o ho5 => hc o (by omega), (K.mono (fun b _ q => .inr (C.R.kV i hi b q))).setCell _ _ (fun _ => .inl C.R.kw)⟩
  · obtain ⟨u, g1, g2, g3⟩ := C.U.word L hL
    refine ⟨u, g1, (hc _ (by omega)).trans g2, fun j hj => ?_⟩
    rw [g3 j hj]
    by_cases e : 64 * L + j = i
    · rw [e, upd_at]
      obtain ⟨n1, n2⟩ := hne (by omega)
      cases h5 : Q i with
      | nil => exact absurd h5 n1
      | cons x xs =>
        rw [h5] at n2
        cases h6 : strikeB B (x :: xs) with
        | nil => exact absurd h6 n2
        | cons y ys => rfl
    · rw [upd_ne _ _ e]
  · rw [World.frozen?_setCell]; exact (K.frozen (a := ⟨wb, o, none⟩) lw hVw).trans (C.fz o)
end Go.Proofs.YtjlcchjcppkbjaaDoor
/- Cancel of a timer that is far. -/
namespace Go.Proofs.YtjlcchjcppkbjaaDoor
open Go.RowKit
variable {w w' : World} {base wb ab sb cap mb : Nat} {kd kd' : Nat → Nat} {fr now seq : Int} {a a' : AA} {ts : List Pt} {t : Pt}
theorem cancel_no (h : WMem w base wb ab sb cap mb kd fr now seq a ts ts) (hd : Int) (hw : Wf hd) (hg : gm ts hd = none) : Calls Tryd.prog 20 #[.pointer (some ⟨wb, 0, none⟩), .int .i64 hd] w fun e w' => e = .returned (.int .i64 5) ∧ Kept (fun _ => False) w w' := by
  have HV := Lib.hid (valid_c h)
  have c4 := h.c4
  have lw := h.ltw
  obtain ⟨n, hn, hm⟩ := h.map
  have HM := Lib.hid hm.of
  have HW := Lib.hid hw
  have HG := Lib.hid hg
  clear h hm hw hg hn
  have he0 : encB none = .pointer none := rfl
  go_enter Tryd.func20, Tryd.ntmps20
  go_wp2_with (first | (go_at_call 39; refine HV.out.mono ?_; rintro e w' ⟨rfl, hww⟩; obtain rfl := hww.symm) | (at_lookup; refine wpList_look_none codeB rfl _ _ 76 rfl 90 Tryd.underlying30 Tryd.underlying76 none (zero90 _) mb n _ rfl HM.out hd rfl HW.out HG.out ?_))
  go_ret
  exact ⟨rfl, by repeat (first | exact Kept.refl _ _ | refine Kept.alloc ?_ _ | refine Kept.drew ?_)⟩
/-- What Cancel leaves. -/
def CanPost (w : World) (base wb ab sb cap mb : Nat) (kd : Nat → Nat) (fr now seq : Int) (a' : AA) (ts' : List Pt) (w' : World) : Prop := ∃ kd', WMem w' base wb ab sb cap mb kd' fr now seq a' ts' ts' ∧ (∀ b, b < w.heap.size → kd' b = kd b) ∧ Kept (fun b => kd b ≠ 0) w w'
theorem cancel_end (h : WMem w base wb ab sb cap mb kd fr now seq a ts ts) (ht : t ∈ ts) (hnd : (ts.map fun u => u.x.h).Nodup) (hh : 0 ≤ t.x.h ∧ t.x.h ≤ 8796093026303) {er : Int} (hf : a.free t.x.h = (a', er)) {w3 : World} (hc : ∃ V Q, Core w3 wb base V Q kd' fr ∧ Placed fr (sans t ts) Q) (hk : ∀ b, b < w.heap.size → kd' b = kd b)
    (low : ∀ o, o < 5 → w3.cell? ⟨wb, o, none⟩ = w.cell? ⟨wb, o, none⟩) (K : Kept (fun b => kd b = 1 ∨ (5 ≤ kd b ∧ kd b ≤ 261)) w w3) :
    Calls Tryd.prog 47 #[.pointer (some ⟨wb, 0, none⟩), .pointer (some ⟨t.b, 0, none⟩)] w3 fun e w' => e = .returned (.tuple #[]) ∧ CanPost w base wb ab sb cap mb kd fr now seq a' (sans t ts) w' := by
  obtain ⟨hk4, sl, T, -⟩ := h.tm ht
  have k2 := h.kab
  have k3 := h.ksb
  have k4 := h.kmb
  have M3 := h.lists (fr' := fr) (tsP' := sans t ts) hc hk (fun o ho _ => low o ho) K (fun b q => by omega)
  refine (remove_c M3 ht hnd ((K.cell (a := ⟨t.b, 2, none⟩) T.lt (by simp only; omega)).trans T.h) (Nat.lt_of_lt_of_le T.lt K.size) hh hf (tsM' := sans t ts) (sans_length hnd ht) (fun r => gm_strike ts t.x.h r) (by rw [hk _ T.lt]; exact hk4)).mono ?_
  rintro e w' ⟨rfl, M', K'⟩
  refine ⟨rfl, kd', M', hk, (K.mono (fun b _ q => by omega)).trans K' (fun b _ q => ?_)⟩
  rcases q with q | q | q <;> (rw [q]; omega)
set_option maxRecDepth 100000 in
set_option maxHeartbeats 4000000 in
theorem cancel_far (h : WMem w base wb ab sb cap mb kd fr now seq a ts ts) (ht : t ∈ ts) (hts : ts.length ≤ 4096) (hf : pos fr t.x.at_ = 256) (hh : 0 ≤ t.x.h ∧ t.x.h ≤ 8796093026303) (hnd : (ts.map fun u => u.x.h).Nodup) {er : Int} (hfr : a.free t.x.h = (a', er)) :
    Calls Tryd.prog 20 #[.pointer (some ⟨wb, 0, none⟩), .int .i64 t.x.h] w fun e w' => e = .returned (.int .i64 0) ∧ CanPost w base wb ab sb cap mb kd fr now seq a' (sans t ts) w' := by
  have HV := Lib.hid (valid_c h)
  have c4 := h.c4
  have lw := h.ltw
  obtain ⟨n, hn, hm⟩ := h.map
  have HM := Lib.hid hm.of
  have HW : Hid (Wf t.x.h) := Lib.hid (Wf.of (by omega) (by omega))
  have HG := Lib.hid (gm_mem hnd ht)
  obtain ⟨hk4, sl, T, -⟩ := h.tm ht
  rw [hf] at T
  have t4 := T.lv
  have tl := T.lt
  obtain ⟨V, Q, C, M⟩ := h.core
  have htq : t ∈ Q 256 := by have := M.in_ ht; rw [hf] at this; exact this
  have c265 := C.R.cell 256 (by omega)
  rw [show off 256 = 265 from rfl] at c265
  have fz := C.fz 265
  have hrow := C.R.row 256 (by omega)
  have hql : (Q 256).length ≤ 4096 := Nat.le_trans (len_sub (List.Pairwise.of_map Pt.b (fun a b h e => h (by rw [e])) (C.R.nd 256 (by omega))) (fun x hx => (M.at (by omega) hx).1)) hts
  have hVw : (V 256).ownBlock ≠ some wb := fun e => by have := C.R.kV 256 (by omega) wb e; rw [C.R.kw] at this; omega
  obtain ⟨W0, hW0⟩ : ∃ W0, w.alloc (.cells #[.pointer (some ⟨t.b, 0, none⟩)] 90) = W0 := ⟨_, rfl⟩
  have K0 : Kept (fun _ => False) w W0 := by rw [← hW0]; exact (Kept.refl _ w).alloc _
  have hX0 : W0.cell? ⟨w.heap.size, 0, none⟩ = some (.pointer (some ⟨t.b, 0, none⟩)) := by rw [← hW0, World.cell?_alloc_at _ _ _ _ rfl]; rfl
  have hX0l : w.heap.size < W0.heap.size := World.block_lt_of_cell? _ _ hX0
  have hVX : (V 256).ownBlock ≠ some w.heap.size := fun e => by have := C.R.blockV (by omega) e; omega
  have hblk : ∀ u ∈ Q 256, Blk W0 u.b ∧ (V 256).ownBlock ≠ some u.b := fun u hu => by
    obtain ⟨sl, T, -⟩ := C.R.tm 256 (by omega) u hu
    exact ⟨T.blk.kept K0 (fun h => h), fun e => by have h1 := C.R.kV 256 (by omega) _ e; have h2 := C.R.kT 256 (by omega) u hu; omega⟩
  have HDEL := Lib.hid (delP_c (X := w.heap.size) (t := t) (ownsRow_kept hrow K0 (fun _ _ _ h => h)) (by omega) (List.ne_nil_of_mem htq) hblk (hblk t htq).1 (hblk t htq).2 hX0 hVX)
  have HREM : Hid (∀ v' w2, w2.ownsRow base 90 1 v' (strikeB t.b (Q 256)).length ((strikeB t.b (Q 256)).map ptr) → (∀ b, v'.ownBlock = some b → (V 256).ownBlock = some b) → Kept (fun b => (V 256).ownBlock = some b) W0 w2 →
      Calls Tryd.prog 47 #[.pointer (some ⟨wb, 0, none⟩), .pointer (some ⟨t.b, 0, none⟩)] (w2.setCell ⟨wb, 265, none⟩ v') fun e w' => e = .returned (.tuple #[]) ∧ CanPost w base wb ab sb cap mb kd fr now seq a' (sans t ts) w') := Lib.hid fun v' w2 ho hb K => by
    have KK : Kept (fun b => (V 256).ownBlock = some b) w w2 := (K0.mono (T := fun b => (V 256).ownBlock = some b) (fun _ _ h => h.elim)).trans K (fun _ _ h => h)
    obtain ⟨kd', h1, h2, h3, h4⟩ := C.struck_core (i := 256) (by omega) KK ho hb (fun h => by omega)
    have hP := M.sans hnd ht
    rw [hf] at hP
    exact cancel_end h ht hnd hh hfr ⟨_, _, h2, hP⟩ h1 h3 (h4.mono (fun b _ q => by omega))
  have HCE : Hid (∀ w2, Kept (fun b => (V 256).ownBlock = some b) W0 w2 → w2.cell? ⟨wb, 265, none⟩ = some (V 256) ∧ w2.frozen? ⟨wb, 265, none⟩ = false ∧ wb < w2.heap.size ∧ w2.cell? ⟨w.heap.size, 0, none⟩ = some (.pointer (some ⟨t.b, 0, none⟩)) ∧ w.heap.size < w2.heap.size) := Lib.hid fun w2 K => by
    have KK : Kept (fun b => (V 256).ownBlock = some b) w w2 := (K0.mono (T := fun b => (V 256).ownBlock = some b) (fun _ _ h => h.elim)).trans K (fun _ _ h => h)
    exact ⟨(KK.cell (a := ⟨wb, 265, none⟩) lw hVw).trans c265, (KK.frozen (a := ⟨wb, 265, none⟩) lw hVw).trans fz, Nat.lt_of_lt_of_le lw KK.size, (K.cell (a := ⟨w.heap.size, 0, none⟩) hX0l hVX).trans hX0, Nat.lt_of_lt_of_le hX0l K.size⟩
  rw [← hW0] at HDEL HREM HCE
  clear h hm hn T C M htq hrow hql hblk hnd hts hf hh hfr hVw hVX hX0 hX0l K0 hW0 hk4 ht fz W0
  generalize V 256 = v at c265 HDEL HREM HCE
  generalize strikeB t.b (Q 256) = q at HDEL HREM
  have he0 : encB (some t.b) = .pointer (some ⟨t.b, 0, none⟩) := rfl
  go_enter Tryd.func20, Tryd.ntmps20
  go_wp2_with (first | (go_at_call 39; refine HV.out.mono ?_; rintro e w' ⟨rfl, hww⟩; obtain rfl := hww.symm) | (at_lookup; refine wpList_look_some codeB rfl _ _ 76 rfl 90 Tryd.underlying30 Tryd.underlying76 none (zero90 _) mb n _ rfl HM.out t.x.h rfl HW.out (some t.b) HG.out ?_) | (go_at_call 49; refine HDEL.out.mono ?_; rintro e w2 ⟨v', rfl, ho, hb, K2⟩; obtain ⟨p2, c2, rfl⟩ := own_sl ho; have HR2 := Lib.hid (HREM.out _ w2 ho hb K2); obtain ⟨d1, d2, d3, d4, d5⟩ := HCE.out w2 K2; clear ho hb K2) | (go_at_call 47; refine HR2.out.mono ?_; rintro e w3 ⟨rfl, hfin⟩))
  go_ret
  exact ⟨rfl, hfin⟩
end Go.Proofs.YtjlcchjcppkbjaaDoor
/- Cancel of a timer that stands in a level. (Printed by gen_cancel.py.) -/
namespace Go.Proofs.YtjlcchjcppkbjaaDoor
open Go.RowKit
variable {w w' : World} {base wb ab sb cap mb : Nat} {kd kd' : Nat → Nat} {fr now seq : Int} {a a' : AA} {ts : List Pt} {t : Pt}
theorem Core.same_low {w w3 : World} {V : Nat → Value} {Q : Nat → List Pt} (C : Core w wb base V Q kd fr) (K : Kept (fun _ => False) w w3) (o : Nat) : w3.cell? ⟨wb, o, none⟩ = w.cell? ⟨wb, o, none⟩ := K.cell (a := ⟨wb, o, none⟩) C.R.ltw (fun h => h)
set_option maxRecDepth 100000 in
set_option maxHeartbeats 4000000 in
theorem cancel_lvl_some (h : WMem w base wb ab sb cap mb kd fr now seq a ts ts) (ht : t ∈ ts) (hts : ts.length ≤ 4096) {L s : Nat} (hL : L < 4) (hs : s < 64) (hf : pos fr t.x.at_ = 64 * L + s) (hq : ∀ V Q, Core w wb base V Q kd fr → Placed fr ts Q → strikeB t.b (Q (64 * L + s)) ≠ []) (hh : 0 ≤ t.x.h ∧ t.x.h ≤ 8796093026303) (hnd : (ts.map fun u => u.x.h).Nodup) {er : Int} (hfr : a.free t.x.h = (a', er)) :
    Calls Tryd.prog 20 #[.pointer (some ⟨wb, 0, none⟩), .int .i64 t.x.h] w fun e w' => e = .returned (.int .i64 0) ∧ CanPost w base wb ab sb cap mb kd fr now seq a' (sans t ts) w' := by
  have HV := Lib.hid (valid_c h)
  have c4 := h.c4
  have lw := h.ltw
  obtain ⟨n, hn, hm⟩ := h.map
  have HM := Lib.hid hm.of
  have HW : Hid (Wf t.x.h) := Lib.hid (Wf.of (by omega) (by omega))
  have HG := Lib.hid (gm_mem hnd ht)
  obtain ⟨hk4, sl, T, hsl⟩ := h.tm ht
  rw [hf] at T hsl
  have hsl2 := hsl (by omega)
  rw [show (64 * L + s) % 64 = s by omega] at hsl2
  subst hsl2
  rw [show (64 * L + s) / 64 = L by omega] at T
  obtain ⟨V, Q, C, M⟩ := h.core
  have hqq := hq V Q C M
  have hi : 64 * L + s < 257 := by omega
  have eoff : off (64 * L + s) = 5 + L * 64 + s := by unfold off; rw [if_pos (by omega)]; omega
  have htq : t ∈ Q (64 * L + s) := by have := M.in_ ht; rw [hf] at this; exact this
  have hcv := C.R.cell _ hi
  rw [eoff] at hcv
  have fz := C.fz (5 + L * 64 + s)
  have hrow := C.R.row _ hi
  have hql : (Q (64 * L + s)).length ≤ 4096 := Nat.le_trans (len_sub (List.Pairwise.of_map Pt.b (fun a b h e => h (by rw [e])) (C.R.nd _ hi)) (fun x hx => (M.at hi hx).1)) hts
  have hVw : (V (64 * L + s)).ownBlock ≠ some wb := fun e => by have := C.R.kV _ hi wb e; rw [C.R.kw] at this; omega
  have hVt : (V (64 * L + s)).ownBlock ≠ some t.b := fun e => by have := C.R.kV _ hi _ e; omega
  obtain ⟨W0, hW0⟩ : ∃ W0, w.alloc (.cells #[.pointer (some ⟨t.b, 0, none⟩)] 90) = W0 := ⟨_, rfl⟩
  have K0 : Kept (fun _ => False) w W0 := by rw [← hW0]; exact (Kept.refl _ w).alloc _
  have hX0 : W0.cell? ⟨w.heap.size, 0, none⟩ = some (.pointer (some ⟨t.b, 0, none⟩)) := by rw [← hW0, World.cell?_alloc_at _ _ _ _ rfl]; rfl
  have hX0l : w.heap.size < W0.heap.size := World.block_lt_of_cell? _ _ hX0
  have hVX : (V (64 * L + s)).ownBlock ≠ some w.heap.size := fun e => by have := C.R.blockV hi e; omega
  have hblk : ∀ u ∈ Q (64 * L + s), Blk W0 u.b ∧ (V (64 * L + s)).ownBlock ≠ some u.b := fun u hu => by
    obtain ⟨sl, T, -⟩ := C.R.tm _ hi u hu
    exact ⟨T.blk.kept K0 (fun h => h), fun e => by have h1 := C.R.kV _ hi _ e; have h2 := C.R.kT _ hi u hu; omega⟩
  have HDEL : Hid (∀ W, Kept (fun _ => False) W0 W → Calls Tryd.prog 49 #[V (64 * L + s), .func (.func 48) #[] #[.pointer (some ⟨w.heap.size, 0, none⟩)]] W (DelPost W base (V (64 * L + s)) (strikeB t.b (Q (64 * L + s))))) := Lib.hid fun W k =>
    delP_c (X := w.heap.size) (t := t) (ownsRow_kept (ownsRow_kept hrow K0 (fun _ _ _ h => h)) k (fun _ _ _ h => h)) (by omega) (List.ne_nil_of_mem htq) (fun u hu => ⟨(hblk u hu).1.kept k (fun h => h), (hblk u hu).2⟩) ((hblk t htq).1.kept k (fun h => h)) (hblk t htq).2 ((k.cell (a := ⟨w.heap.size, 0, none⟩) hX0l (fun h => h)).trans hX0) hVX
  have HCE : Hid (∀ W w2, Kept (fun _ => False) W0 W → Kept (fun b => (V (64 * L + s)).ownBlock = some b) W w2 → w2.cell? ⟨wb, 5 + L * 64 + s, none⟩ = some (V (64 * L + s)) ∧ w2.frozen? ⟨wb, 5 + L * 64 + s, none⟩ = false ∧ wb < w2.heap.size ∧ w2.cell? ⟨w.heap.size, 0, none⟩ = some (.pointer (some ⟨t.b, 0, none⟩)) ∧ w.heap.size < w2.heap.size ∧ w2.cell? ⟨t.b, 4, none⟩ = some (.int .i64 L) ∧ w2.cell? ⟨t.b, 5, none⟩ = some (.int .i64 s) ∧ t.b < w2.heap.size) := Lib.hid fun W w2 k K => by
    have KK : Kept (fun b => (V (64 * L + s)).ownBlock = some b) w w2 := ((K0.trans k (fun _ _ h => h)).mono (T := fun b => (V (64 * L + s)).ownBlock = some b) (fun _ _ h => h.elim)).trans K (fun _ _ h => h)
    have K2 : Kept (fun b => (V (64 * L + s)).ownBlock = some b) W0 w2 := (k.mono (T := fun b => (V (64 * L + s)).ownBlock = some b) (fun _ _ h => h.elim)).trans K (fun _ _ h => h)
    exact ⟨(KK.cell (a := ⟨wb, 5 + L * 64 + s, none⟩) lw hVw).trans hcv, (KK.frozen (a := ⟨wb, 5 + L * 64 + s, none⟩) lw hVw).trans fz, Nat.lt_of_lt_of_le lw KK.size, (K2.cell (a := ⟨w.heap.size, 0, none⟩) hX0l hVX).trans hX0, Nat.lt_of_lt_of_le hX0l K2.size, (KK.cell (a := ⟨t.b, 4, none⟩) T.lt hVt).trans T.lv, (KK.cell (a := ⟨t.b, 5, none⟩) T.lt hVt).trans T.sl, Nat.lt_of_lt_of_le T.lt KK.size⟩
  have HREM : Hid (∀ v' W w2, w2.ownsRow base 90 1 v' (strikeB t.b (Q (64 * L + s))).length ((strikeB t.b (Q (64 * L + s))).map ptr) → (∀ b, v'.ownBlock = some b → (V (64 * L + s)).ownBlock = some b) → Kept (fun _ => False) W0 W → Kept (fun b => (V (64 * L + s)).ownBlock = some b) W w2 → ∀ w3, Kept (fun _ => False) (w2.setCell ⟨wb, 5 + L * 64 + s, none⟩ v') w3 →
      (w3.cell? ⟨w.heap.size, 0, none⟩ = some (.pointer (some ⟨t.b, 0, none⟩)) ∧ w.heap.size < w3.heap.size) ∧ Calls Tryd.prog 47 #[.pointer (some ⟨wb, 0, none⟩), .pointer (some ⟨t.b, 0, none⟩)] w3 fun e w' => e = .returned (.tuple #[]) ∧ CanPost w base wb ab sb cap mb kd fr now seq a' (sans t ts) w') := Lib.hid fun v' W w2 ho hb k K w3 k3 => by
    have KK : Kept (fun b => (V (64 * L + s)).ownBlock = some b) w w2 := ((K0.trans k (fun _ _ h => h)).mono (T := fun b => (V (64 * L + s)).ownBlock = some b) (fun _ _ h => h.elim)).trans K (fun _ _ h => h)
    obtain ⟨kd', h1, h2, h3, h4⟩ := C.struck_core hi KK ho hb (fun _ => ⟨List.ne_nil_of_mem htq, hqq⟩)
    rw [eoff] at h2 h3 h4
    have hP := M.sans hnd ht
    rw [hf] at hP
    obtain ⟨-, -, -, q4, q5, -⟩ := HCE.out W w2 k K
    refine ⟨⟨(k3.cell (a := ⟨w.heap.size, 0, none⟩) (by simpa using q5) (fun h => h)).trans ((cell_set_blk _ _ ⟨w.heap.size, 0, none⟩ _ (by simp only; omega)).trans q4), Nat.lt_of_lt_of_le (by simpa using q5) k3.size⟩, ?_⟩
    exact cancel_end h ht hnd hh hfr ⟨_, _, h2.same k3, hP⟩ h1 (fun o ho5 => (h2.same_low k3 o).trans (h3 o ho5)) ((h4.mono (fun b _ q => by omega)).trans k3 (fun _ _ h => h.elim))
  have HHC := Lib.hid (HCE.out W0 W0 (Kept.refl _ _) (Kept.refl _ _))
  have t40 := T.lv
  have tl0 := T.lt
  have hlen : Hid (0 < (strikeB t.b (Q (64 * L + s))).length) := Lib.hid (by exact List.length_pos_iff.2 hqq)
  rw [← hW0] at HDEL HREM HCE HHC
  clear h hm hn T C M htq hrow hql hblk hnd hts hf hh hfr hVw hVX hVt hX0 hX0l K0 hW0 hk4 ht fz hq hqq hcv W0 eoff hi hsl
  generalize V (64 * L + s) = v at HDEL HREM HCE HHC
  generalize strikeB t.b (Q (64 * L + s)) = q at HDEL HREM hlen
  have i1 : (0 : Int) ≤ (L : Int) := by omega
  have i2 : (L : Int) < 4 := by omega
  have i3 : (0 : Int) ≤ (s : Int) := by omega
  have i4 : (s : Int) < 64 := by omega
  have b2 : ((L : Int) == 4) = false := by simp; omega
  have he0 : encB (some t.b) = .pointer (some ⟨t.b, 0, none⟩) := rfl
  go_enter Tryd.func20, Tryd.ntmps20
  go_wp2_with (first | (go_at_call 39; refine HV.out.mono ?_; rintro e w' ⟨rfl, hww⟩; obtain rfl := hww.symm) | (at_lookup; refine wpList_look_some codeB rfl _ _ 76 rfl 90 Tryd.underlying30 Tryd.underlying76 none (zero90 _) mb n _ rfl HM.out t.x.h rfl HW.out (some t.b) HG.out ?_))
  refine wp_region_still_tail 15 (by kernel_rfl) (by kernel_rfl) ?_
  simp only [List.take_succ_cons, List.take_zero, List.drop_succ_cons, List.drop_zero]
  change wpStill _ _ (World.drew _) (fun a' => wpList _ _ _ _ a' (World.drew _)) _ _
  obtain ⟨W1, hW1⟩ : ∃ W1, (w.alloc (.cells #[.pointer (some ⟨t.b, 0, none⟩)] 90)).drew = W1 := ⟨_, rfl⟩
  have K1 : Kept (fun _ => False) (w.alloc (.cells #[.pointer (some ⟨t.b, 0, none⟩)] 90)) W1 := by rw [← hW1]; exact (Kept.refl _ _).drew
  obtain ⟨e1, -, e3, e4, e5, e6, e7, e8⟩ := HCE.out W1 W1 K1 (Kept.refl _ _)
  have HK1 := Lib.hid K1
  have HD1 := Lib.hid (HDEL.out W1 K1)
  rw [hW1]
  clear K1 hW1 t40 tl0 c4
  iterate 15 still_step
  refine wpStill_nil ?_
  go_wp2_with (go_at_call 49; refine HD1.out.mono ?_; rintro e w2 ⟨v', rfl, ho, hb, K2⟩; obtain ⟨p2, c2, rfl⟩ := own_sl ho; have HR2 := Lib.hid (HREM.out _ W1 w2 ho hb HK1.out K2); obtain ⟨d1, d2, d3, d4, d5, d6, d7, d8⟩ := HCE.out W1 w2 HK1.out K2; have hln := hlen.out; clear ho hb K2 e1 e3 e4 e5 e6 e7 e8)
  go_region
  go_wp2_with fail
  obtain ⟨⟨f1, f2⟩, hrem⟩ := HR2.out (World.drew _) (Kept.refl _ _).drew
  have HR3 := Lib.hid hrem
  clear hrem
  refine HR3.out.mono ?_
  rintro e w3 ⟨rfl, hfin⟩
  go_wp2_with fail
  go_ret
  exact ⟨rfl, hfin⟩
set_option maxRecDepth 100000 in
set_option maxHeartbeats 4000000 in
theorem cancel_lvl_none (h : WMem w base wb ab sb cap mb kd fr now seq a ts ts) (ht : t ∈ ts) (hts : ts.length ≤ 4096) {L s : Nat} (hL : L < 4) (hs : s < 64) (hf : pos fr t.x.at_ = 64 * L + s) (hq : ∀ V Q, Core w wb base V Q kd fr → Placed fr ts Q → strikeB t.b (Q (64 * L + s)) = []) (hh : 0 ≤ t.x.h ∧ t.x.h ≤ 8796093026303) (hnd : (ts.map fun u => u.x.h).Nodup) {er : Int} (hfr : a.free t.x.h = (a', er)) :
    Calls Tryd.prog 20 #[.pointer (some ⟨wb, 0, none⟩), .int .i64 t.x.h] w fun e w' => e = .returned (.int .i64 0) ∧ CanPost w base wb ab sb cap mb kd fr now seq a' (sans t ts) w' := by
  have HV := Lib.hid (valid_c h)
  have c4 := h.c4
  have lw := h.ltw
  obtain ⟨n, hn, hm⟩ := h.map
  have HM := Lib.hid hm.of
  have HW : Hid (Wf t.x.h) := Lib.hid (Wf.of (by omega) (by omega))
  have HG := Lib.hid (gm_mem hnd ht)
  obtain ⟨hk4, sl, T, hsl⟩ := h.tm ht
  rw [hf] at T hsl
  have hsl2 := hsl (by omega)
  rw [show (64 * L + s) % 64 = s by omega] at hsl2
  subst hsl2
  rw [show (64 * L + s) / 64 = L by omega] at T
  obtain ⟨V, Q, C, M⟩ := h.core
  have hqq := hq V Q C M
  have hi : 64 * L + s < 257 := by omega
  have eoff : off (64 * L + s) = 5 + L * 64 + s := by unfold off; rw [if_pos (by omega)]; omega
  have htq : t ∈ Q (64 * L + s) := by have := M.in_ ht; rw [hf] at this; exact this
  have hcv := C.R.cell _ hi
  rw [eoff] at hcv
  have fz := C.fz (5 + L * 64 + s)
  have hrow := C.R.row _ hi
  have hql : (Q (64 * L + s)).length ≤ 4096 := Nat.le_trans (len_sub (List.Pairwise.of_map Pt.b (fun a b h e => h (by rw [e])) (C.R.nd _ hi)) (fun x hx => (M.at hi hx).1)) hts
  have hVw : (V (64 * L + s)).ownBlock ≠ some wb := fun e => by have := C.R.kV _ hi wb e; rw [C.R.kw] at this; omega
  have hVt : (V (64 * L + s)).ownBlock ≠ some t.b := fun e => by have := C.R.kV _ hi _ e; omega
  obtain ⟨W0, hW0⟩ : ∃ W0, w.alloc (.cells #[.pointer (some ⟨t.b, 0, none⟩)] 90) = W0 := ⟨_, rfl⟩
  have K0 : Kept (fun _ => False) w W0 := by rw [← hW0]; exact (Kept.refl _ w).alloc _
  have hX0 : W0.cell? ⟨w.heap.size, 0, none⟩ = some (.pointer (some ⟨t.b, 0, none⟩)) := by rw [← hW0, World.cell?_alloc_at _ _ _ _ rfl]; rfl
  have hX0l : w.heap.size < W0.heap.size := World.block_lt_of_cell? _ _ hX0
  have hVX : (V (64 * L + s)).ownBlock ≠ some w.heap.size := fun e => by have := C.R.blockV hi e; omega
  have hblk : ∀ u ∈ Q (64 * L + s), Blk W0 u.b ∧ (V (64 * L + s)).ownBlock ≠ some u.b := fun u hu => by
    obtain ⟨sl, T, -⟩ := C.R.tm _ hi u hu
    exact ⟨T.blk.kept K0 (fun h => h), fun e => by have h1 := C.R.kV _ hi _ e; have h2 := C.R.kT _ hi u hu; omega⟩
  have HDEL : Hid (∀ W, Kept (fun _ => False) W0 W → Calls Tryd.prog 49 #[V (64 * L + s), .func (.func 48) #[] #[.pointer (some ⟨w.heap.size, 0, none⟩)]] W (DelPost W base (V (64 * L + s)) (strikeB t.b (Q (64 * L + s))))) := Lib.hid fun W k =>
    delP_c (X := w.heap.size) (t := t) (ownsRow_kept (ownsRow_kept hrow K0 (fun _ _ _ h => h)) k (fun _ _ _ h => h)) (by omega) (List.ne_nil_of_mem htq) (fun u hu => ⟨(hblk u hu).1.kept k (fun h => h), (hblk u hu).2⟩) ((hblk t htq).1.kept k (fun h => h)) (hblk t htq).2 ((k.cell (a := ⟨w.heap.size, 0, none⟩) hX0l (fun h => h)).trans hX0) hVX
  have HCE : Hid (∀ W w2, Kept (fun _ => False) W0 W → Kept (fun b => (V (64 * L + s)).ownBlock = some b) W w2 → w2.cell? ⟨wb, 5 + L * 64 + s, none⟩ = some (V (64 * L + s)) ∧ w2.frozen? ⟨wb, 5 + L * 64 + s, none⟩ = false ∧ wb < w2.heap.size ∧ w2.cell? ⟨w.heap.size, 0, none⟩ = some (.pointer (some ⟨t.b, 0, none⟩)) ∧ w.heap.size < w2.heap.size ∧ w2.cell? ⟨t.b, 4, none⟩ = some (.int .i64 L) ∧ w2.cell? ⟨t.b, 5, none⟩ = some (.int .i64 s) ∧ t.b < w2.heap.size) := Lib.hid fun W w2 k K => by
    have KK : Kept (fun b => (V (64 * L + s)).ownBlock = some b) w w2 := ((K0.trans k (fun _ _ h => h)).mono (T := fun b => (V (64 * L + s)).ownBlock = some b) (fun _ _ h => h.elim)).trans K (fun _ _ h => h)
    have K2 : Kept (fun b => (V (64 * L + s)).ownBlock = some b) W0 w2 := (k.mono (T := fun b => (V (64 * L + s)).ownBlock = some b) (fun _ _ h => h.elim)).trans K (fun _ _ h => h)
    exact ⟨(KK.cell (a := ⟨wb, 5 + L * 64 + s, none⟩) lw hVw).trans hcv, (KK.frozen (a := ⟨wb, 5 + L * 64 + s, none⟩) lw hVw).trans fz, Nat.lt_of_lt_of_le lw KK.size, (K2.cell (a := ⟨w.heap.size, 0, none⟩) hX0l hVX).trans hX0, Nat.lt_of_lt_of_le hX0l K2.size, (KK.cell (a := ⟨t.b, 4, none⟩) T.lt hVt).trans T.lv, (KK.cell (a := ⟨t.b, 5, none⟩) T.lt hVt).trans T.sl, Nat.lt_of_lt_of_le T.lt KK.size⟩
  have HREM : Hid (∀ v' W w2, w2.ownsRow base 90 1 v' (strikeB t.b (Q (64 * L + s))).length ((strikeB t.b (Q (64 * L + s))).map ptr) → (∀ b, v'.ownBlock = some b → (V (64 * L + s)).ownBlock = some b) → Kept (fun _ => False) W0 W → Kept (fun b => (V (64 * L + s)).ownBlock = some b) W w2 → ∀ W2, Kept (fun _ => False) w2 W2 →
      Calls Tryd.prog 44 #[.pointer (some ⟨wb, 0, none⟩), .int .i64 L, .int .i64 s] W2 fun e w3 => e = .returned (V (64 * L + s)) ∧ (w3.cell? ⟨w.heap.size, 0, none⟩ = some (.pointer (some ⟨t.b, 0, none⟩)) ∧ w.heap.size < w3.heap.size) ∧ Calls Tryd.prog 47 #[.pointer (some ⟨wb, 0, none⟩), .pointer (some ⟨t.b, 0, none⟩)] w3 fun e w' => e = .returned (.tuple #[]) ∧ CanPost w base wb ab sb cap mb kd fr now seq a' (sans t ts) w') := Lib.hid fun v' W w2 ho hb k K W2 kW => by
    have KK : Kept (fun b => (V (64 * L + s)).ownBlock = some b) w W2 := (((K0.trans k (fun _ _ h => h)).mono (T := fun b => (V (64 * L + s)).ownBlock = some b) (fun _ _ h => h.elim)).trans K (fun _ _ h => h)).trans kW (fun _ _ h => h.elim)
    have K02 : Kept (fun b => (V (64 * L + s)).ownBlock = some b) W0 W2 := ((k.mono (T := fun b => (V (64 * L + s)).ownBlock = some b) (fun _ _ h => h.elim)).trans K (fun _ _ h => h)).trans kW (fun _ _ h => h.elim)
    obtain ⟨kd', h1, h2⟩ := C.struck (B := t.b) (v' := .slice none 0 0) hi KK (by rw [hqq]; exact ⟨rfl, .inl ⟨rfl, rfl⟩⟩) (fun b e => by simp [Value.ownBlock] at e)
    rw [hqq] at h2
    have hP := M.sans hnd ht
    rw [hf, hqq] at hP
    refine (empty_x (v := V (64 * L + s)) (fr := fr) (Q := Q) (V := V) hL hs ((KK.cell (a := ⟨wb, off (64 * L + s), none⟩) lw hVw).trans (C.R.cell _ hi)) h2 (C.U.same lw KK hVw) (fun o => (KK.frozen (a := ⟨wb, o, none⟩) lw hVw).trans (C.fz o)) ((KK.cell (a := ⟨wb, 1, none⟩) lw hVw).trans C.fr)).mono ?_
    rintro e w3 ⟨rfl, P⟩
    refine ⟨rfl, ⟨(P.K.cell (a := ⟨w.heap.size, 0, none⟩) (Nat.lt_of_lt_of_le hX0l K02.size) (fun (e : w.heap.size = wb) => by omega)).trans ((K02.cell (a := ⟨w.heap.size, 0, none⟩) hX0l hVX).trans hX0), Nat.lt_of_lt_of_le (Nat.lt_of_lt_of_le hX0l K02.size) P.K.size⟩, ?_⟩
    exact cancel_end h ht hnd hh hfr ⟨_, _, P.core, hP⟩ h1 (fun o ho5 => (P.low o ho5).trans (KK.cell (a := ⟨wb, o, none⟩) lw hVw)) ((KK.mono (T := fun b => kd b = 1 ∨ (5 ≤ kd b ∧ kd b ≤ 261)) (fun b _ q => by have := C.R.kV _ hi b q; omega)).trans P.K (fun b _ (q : b = wb) => by left; rw [q]; exact C.R.kw))
  have HHC := Lib.hid (HCE.out W0 W0 (Kept.refl _ _) (Kept.refl _ _))
  have t40 := T.lv
  have tl0 := T.lt
  have hlen : Hid ((strikeB t.b (Q (64 * L + s))).length = 0) := Lib.hid (by rw [hqq]; rfl)
  rw [← hW0] at HDEL HREM HCE HHC
  clear h hm hn T C M htq hrow hql hblk hnd hts hf hh hfr hVw hVX hVt hX0 hX0l K0 hW0 hk4 ht fz hq hqq hcv W0 eoff hi hsl
  generalize V (64 * L + s) = v at HDEL HREM HCE HHC
  generalize strikeB t.b (Q (64 * L + s)) = q at HDEL HREM hlen
  have i1 : (0 : Int) ≤ (L : Int) := by omega
  have i2 : (L : Int) < 4 := by omega
  have i3 : (0 : Int) ≤ (s : Int) := by omega
  have i4 : (s : Int) < 64 := by omega
  have b2 : ((L : Int) == 4) = false := by simp; omega
  have he0 : encB (some t.b) = .pointer (some ⟨t.b, 0, none⟩) := rfl
  go_enter Tryd.func20, Tryd.ntmps20
  go_wp2_with (first | (go_at_call 39; refine HV.out.mono ?_; rintro e w' ⟨rfl, hww⟩; obtain rfl := hww.symm) | (at_lookup; refine wpList_look_some codeB rfl _ _ 76 rfl 90 Tryd.underlying30 Tryd.underlying76 none (zero90 _) mb n _ rfl HM.out t.x.h rfl HW.out (some t.b) HG.out ?_))
  refine wp_region_still_tail 15 (by kernel_rfl) (by kernel_rfl) ?_
  simp only [List.take_succ_cons, List.take_zero, List.drop_succ_cons, List.drop_zero]
  change wpStill _ _ (World.drew _) (fun a' => wpList _ _ _ _ a' (World.drew _)) _ _
  obtain ⟨W1, hW1⟩ : ∃ W1, (w.alloc (.cells #[.pointer (some ⟨t.b, 0, none⟩)] 90)).drew = W1 := ⟨_, rfl⟩
  have K1 : Kept (fun _ => False) (w.alloc (.cells #[.pointer (some ⟨t.b, 0, none⟩)] 90)) W1 := by rw [← hW1]; exact (Kept.refl _ _).drew
  obtain ⟨e1, -, e3, e4, e5, e6, e7, e8⟩ := HCE.out W1 W1 K1 (Kept.refl _ _)
  have HK1 := Lib.hid K1
  have HD1 := Lib.hid (HDEL.out W1 K1)
  rw [hW1]
  clear K1 hW1 t40 tl0 c4
  iterate 15 still_step
  refine wpStill_nil ?_
  go_wp2_with (go_at_call 49; refine HD1.out.mono ?_; rintro e w2 ⟨v', rfl, ho, hb, K2⟩; obtain ⟨p2, c2, rfl⟩ := own_sl ho; have HR2 := Lib.hid (HREM.out _ W1 w2 ho hb HK1.out K2); obtain ⟨d1, d2, d3, d4, d5, d6, d7, d8⟩ := HCE.out W1 w2 HK1.out K2; have hln := hlen.out; clear ho hb K2 e1 e3 e4 e5 e6 e7 e8)
  refine wp_region_still_tail 9 (by kernel_rfl) (by kernel_rfl) ?_
  simp only [List.take_succ_cons, List.take_zero, List.drop_succ_cons, List.drop_zero]
  change wpStill _ _ (World.drew _) (fun a' => wpList _ _ _ _ a' (World.drew _)) _ _
  obtain ⟨W2, hW2⟩ : ∃ W2, w2.drew = W2 := ⟨_, rfl⟩
  have K2 : Kept (fun _ => False) w2 W2 := by rw [← hW2]; exact (Kept.refl _ _).drew
  have g4 := (K2.cell (a := ⟨w.heap.size, 0, none⟩) d5 (fun h => h)).trans d4
  have g6 := (K2.cell (a := ⟨t.b, 4, none⟩) d8 (fun h => h)).trans d6
  have g7 := (K2.cell (a := ⟨t.b, 5, none⟩) d8 (fun h => h)).trans d7
  have g5 := Nat.lt_of_lt_of_le d5 K2.size
  have g8 := Nat.lt_of_lt_of_le d8 K2.size
  have HR3 := Lib.hid (HR2.out W2 K2)
  rw [hW2]
  clear K2 hW2 d1 d2 d3 d4 d5 d6 d7 d8
  iterate 9 still_step
  refine wpStill_nil ?_
  go_wp2_with fail
  refine HR3.out.mono ?_
  rintro e w3 ⟨rfl, ⟨f1, f2⟩, hrem⟩
  have HR4 := Lib.hid hrem
  clear hrem g4 g5 g6 g7 g8
  go_wp2_with fail
  refine HR4.out.mono ?_
  rintro e w4 ⟨rfl, hfin⟩
  go_wp2_with fail
  go_ret
  exact ⟨rfl, hfin⟩
end Go.Proofs.YtjlcchjcppkbjaaDoor
/- Cancel. -/
namespace Go.Proofs.YtjlcchjcppkbjaaDoor
open Go.RowKit
variable {w w' : World} {base wb : Nat} {kd : Nat → Nat}
theorem cancel_c {W W' : Wh} (h : IsW w base wb kd W) (hd : Int) (h0 : -9223372036854775808 ≤ hd) (h1 : hd ≤ 9223372036854775807) {er : Int} (hp : W.cancel hd = (W', er)) :
    Calls Tryd.prog 20 #[.pointer (some ⟨wb, 0, none⟩), .int .i64 hd] w fun e w' => e = .returned (.int .i64 er) ∧ StepW w base wb kd W' w' := by
  have hW := h
  obtain ⟨ok, ab, sb, cap, mb, ts, M, hts⟩ := h
  have hlen : ts.length ≤ 4096 := by have := ok.short; rw [← hts, List.length_map] at this; exact this
  have hnd : (ts.map fun u => u.x.h).Nodup := by have := ok.inj; rw [← hts, List.map_map] at this; exact this
  by_cases hx : ∃ t ∈ ts, t.x.h = hd
  · obtain ⟨t, ht, rfl⟩ := hx
    have hxl : t.x ∈ W.l := by rw [← hts]; exact List.mem_map.2 ⟨t, ht, rfl⟩
    have hh := ok.hlo hxl
    rw [cancel_some hxl rfl] at hp
    injection hp with e1 e2
    subst e1 e2
    have hok := (ok.cancel hxl).1
    have hsx : (sans t ts).map Pt.x = W.l.filter fun y => decide (y.h ≠ t.x.h) := by
      unfold sans
      rw [← hts, List.filter_map]
      rfl
    have hfr : W.a.free t.x.h = ((W.a.free t.x.h).1, (W.a.free t.x.h).2) := rfl
    have fin : ∀ {f : Calls Tryd.prog 20 #[.pointer (some ⟨wb, 0, none⟩), .int .i64 t.x.h] w fun e w' => e = .returned (.int .i64 0) ∧ CanPost w base wb ab sb cap mb kd (W.now + 1) W.now W.seq (W.a.free t.x.h).1 (sans t ts) w'}, Calls Tryd.prog 20 #[.pointer (some ⟨wb, 0, none⟩), .int .i64 t.x.h] w fun e w' => e = .returned (.int .i64 0) ∧ StepW w base wb kd { W with a := (W.a.free t.x.h).1, l := W.l.filter fun y => decide (y.h ≠ t.x.h) } w' := fun {f} => by
      refine f.mono ?_
      rintro e w' ⟨rfl, kd', M', hk, K⟩
      exact ⟨rfl, kd', ⟨hok, ab, sb, cap, mb, _, M', hsx⟩, hk, K⟩
    have hpl := pos_lt (W.now + 1) t.x.at_
    by_cases hf : pos (W.now + 1) t.x.at_ = 256
    · exact fin (f := cancel_far M ht hlen hf (by omega) hnd hfr)
    · have e1 : pos (W.now + 1) t.x.at_ = 64 * (pos (W.now + 1) t.x.at_ / 64) + pos (W.now + 1) t.x.at_ % 64 := by omega
      by_cases hu : ∃ u ∈ ts, u ≠ t ∧ pos (W.now + 1) u.x.at_ = pos (W.now + 1) t.x.at_
      · obtain ⟨u, hu1, hu2, hu3⟩ := hu
        refine fin (f := cancel_lvl_some M ht hlen (L := pos (W.now + 1) t.x.at_ / 64) (s := pos (W.now + 1) t.x.at_ % 64) (by omega) (by omega) e1 (fun V Q C P => ?_) (by omega) hnd hfr)
        rw [← e1]
        refine List.ne_nil_of_mem (mem_strike.2 ⟨?_, fun e => hu2 (P.inj u hu1 t ht e)⟩)
        rw [← hu3]; exact P.in_ hu1
      · refine fin (f := cancel_lvl_none M ht hlen (L := pos (W.now + 1) t.x.at_ / 64) (s := pos (W.now + 1) t.x.at_ % 64) (by omega) (by omega) e1 (fun V Q C P => ?_) (by omega) hnd hfr)
        rw [← e1]
        refine List.eq_nil_iff_forall_not_mem.2 fun u hm => ?_
        obtain ⟨m1, m2⟩ := mem_strike.1 hm
        obtain ⟨m3, m4⟩ := P.at hpl m1
        exact hu ⟨u, m3, fun e => m2 (by rw [e]), m4.symm⟩
  · have hne : ∀ t ∈ ts, t.x.h ≠ hd := fun t ht e => hx ⟨t, ht, e⟩
    have hne2 : ∀ x ∈ W.l, x.h ≠ hd := fun x hx2 => by
      rw [← hts] at hx2
      obtain ⟨t, ht, rfl⟩ := List.mem_map.1 hx2
      exact hne t ht
    rw [cancel_none hne2] at hp
    injection hp with e1 e2
    subst e1 e2
    refine (cancel_no M hd (Wf.of h0 h1) (gm_none.2 hne)).mono ?_
    rintro e w' ⟨rfl, K⟩
    exact ⟨rfl, StepW.same hW K⟩
end Go.Proofs.YtjlcchjcppkbjaaDoor
