/- WhRemove: texts for the statements of this seat: contracts of functions, walks, plain laws. Conditions: none. -/
import Derived.StillTailTactics
import Derived.Test.YtjlcchjcppkbjaaDoorWhWheel
import Derived.Test.YtjlcchjcppkbjaaDoorGeAll
set_option linter.all false
/- valid, remove; Now, Len, Room. -/
namespace Go.Proofs.YtjlcchjcppkbjaaDoor
open Go.RowKit
variable {w w' : World} {base wb ab sb cap mb : Nat} {kd kd' : Nat → Nat} {fr now seq : Int} {a a' : AA} {tsP tsM : List Pt}
theorem WMem.drew (h : WMem w base wb ab sb cap mb kd fr now seq a tsP tsM) : WMem w.drew base wb ab sb cap mb kd fr now seq a tsP tsM := h.same ((Kept.refl _ w).drew)
theorem valid_c (h : WMem w base wb ab sb cap mb kd fr now seq a tsP tsM) : Calls Tryd.prog 39 #[.pointer (some ⟨wb, 0, none⟩)] w fun e w' => e = .returned (.bool true) ∧ w' = w := by
  have c4 := h.c4
  have lw := h.ltw
  clear h
  have hne := fun (w : World) (r : Option Nat) => run_neq_map_nil (P := Tryd.prog) w 76 30 90 r Tryd.underlying76
  go_enter Tryd.func39, Tryd.ntmps39
  go_wp2
  go_ret
  exact ⟨rfl, rfl⟩
theorem now_c (h : WMem w base wb ab sb cap mb kd fr now seq a tsP tsM) : Calls Tryd.prog 21 #[.pointer (some ⟨wb, 0, none⟩)] w fun e w' => e = .returned (.int .i64 now) ∧ w' = w := by
  have c0 := h.c0
  have lw := h.ltw
  have HV := Lib.hid (valid_c h)
  clear h
  go_enter Tryd.func21, Tryd.ntmps21
  go_wp2_with (go_at_call 39; refine HV.out.mono ?_; rintro e w' ⟨rfl, rfl⟩)
  go_ret
  exact ⟨rfl, rfl⟩
theorem len_c (h : WMem w base wb ab sb cap mb kd fr now seq a tsP tsM) : Calls Tryd.prog 16 #[.pointer (some ⟨wb, 0, none⟩)] w fun e w' => e = .returned (.int .i64 tsM.length) ∧ w' = w := by
  have c4 := h.c4
  have lw := h.ltw
  have HV := Lib.hid (valid_c h)
  obtain ⟨n, hn, hm⟩ := h.map
  have HM := Lib.hid hm
  clear h hm
  go_enter Tryd.func16, Tryd.ntmps16
  go_wp2_with (first | (go_at_call 39; refine HV.out.mono ?_; rintro e w' ⟨rfl, rfl⟩) | (at_len; refine wpList_lenN rfl _ 76 rfl 90 Tryd.underlying76 mb n tsM.length _ rfl HM.out ?_))
  go_ret
  exact ⟨rfl, rfl⟩
theorem wroom_c (h : WMem w base wb ab sb cap mb kd fr now seq a tsP tsM) : Calls Tryd.prog 22 #[.pointer (some ⟨wb, 0, none⟩)] w fun e w' => e = .returned (.int .i64 a.room) ∧ Kept (fun _ => False) w w' := by
  have c3 := h.c3
  have lw := h.ltw
  have HV := Lib.hid (valid_c h)
  have HR := Lib.hid (room_a h.ar rfl)
  clear h
  go_enter Tryd.func22, Tryd.ntmps22
  go_wp2_with (first | (go_at_call 39; refine HV.out.mono ?_; rintro e w' ⟨rfl, rfl⟩) | (go_at_call 50; refine HR.out.mono ?_; rintro e w' ⟨rfl, hI, hK⟩))
  go_ret
  exact ⟨rfl, hK⟩
set_option maxRecDepth 100000 in
set_option maxHeartbeats 1000000 in
theorem remove_c (h : WMem w base wb ab sb cap mb kd fr now seq a tsP tsM) {t : Pt} (ht : t ∈ tsM) (hnd : (tsM.map fun t => t.x.h).Nodup) (hx : w.cell? ⟨t.b, 2, none⟩ = some (.int .i64 t.x.h)) (ltb : t.b < w.heap.size) (hh : 0 ≤ t.x.h ∧ t.x.h ≤ 8796093026303) {er : Int} (hf : a.free t.x.h = (a', er)) {tsM' : List Pt} (hl : tsM'.length + 1 = tsM.length) (hg : ∀ r, gm tsM' r = if r = t.x.h then none else gm tsM r) (hk : kd t.b = 400) :
    Calls Tryd.prog 47 #[.pointer (some ⟨wb, 0, none⟩), .pointer (some ⟨t.b, 0, none⟩)] w fun e w' => e = .returned (.tuple #[]) ∧ WMem w' base wb ab sb cap mb kd fr now seq a' tsP tsM' ∧ Kept (fun b => b = ab ∨ b = sb ∨ b = mb) w w' := by
  have c3 := h.c3
  have c4 := h.c4
  have lw := h.ltw
  have HH := Lib.hid h
  have HFR : Hid (∀ W, IsA W ab sb cap a → Calls Tryd.prog 68 #[.pointer (some ⟨ab, 0, none⟩), .int .i64 t.x.h] W fun e w' => e = .returned (.int .i64 er) ∧ IsA w' ab sb cap a' ∧ Kept (fun b => b = ab ∨ b = sb) W w') := Lib.hid fun W I => free_a I (by omega) hf
  obtain ⟨n, hn, hm⟩ := h.map
  rw [← hl] at hm
  have HM := Lib.hid hm
  have hold : (gm tsM t.x.h).isSome = true := by rw [gm_mem hnd ht]; rfl
  have HO := Lib.hid hold
  have HW : Hid (Wf t.x.h) := Lib.hid (Wf.of (by omega) (by omega))
  have HFIN : Hid (∀ w2 w3, MapN Tryd.prog 30 readB datB w2 mb n tsM'.length (fun s => if s = t.x.h then none else gm tsM s) → Kept (fun i => i = mb) w w2 → IsA w3 ab sb cap a' → Kept (fun b => b = ab ∨ b = sb) w2 w3 → WMem w3 base wb ab sb cap mb kd fr now seq a' tsP tsM' ∧ Kept (fun b => b = ab ∨ b = sb ∨ b = mb) w w3) := Lib.hid fun w2 w3 m2 k2 i3 k3 => by
    have k1 := h.kab
    have k1s := h.ksb
    have k1m := h.kmb
    have kw := h.kw
    have K : Kept (fun b => b = ab ∨ b = sb ∨ b = mb) w w3 := (k2.mono (fun b _ q => .inr (.inr q))).trans k3 (fun b _ q => q.elim .inl (fun q => .inr (.inl q)))
    have hwn : ¬ (wb = ab ∨ wb = sb ∨ wb = mb) := fun q => by rcases q with q | q | q <;> (rw [q] at kw; omega)
    obtain ⟨⟨V, Q, C, M⟩, b0, b2, b3, b4, b5, -, -, -, -⟩ := h
    refine ⟨⟨⟨V, Q, C.kept K hwn (fun i hi b hb q => by have h1 := C.R.kV i hi b hb; rcases q with q | q | q <;> (rw [q] at h1; omega)) (fun i hi t ht q => by have h1 := C.R.kT i hi t ht; rcases q with q | q | q <;> (rw [q] at h1; omega)), M⟩,
      (K.cell (a := ⟨wb, 0, none⟩) lw hwn).trans b0, (K.cell (a := ⟨wb, 2, none⟩) lw hwn).trans b2, (K.cell (a := ⟨wb, 3, none⟩) lw hwn).trans b3, (K.cell (a := ⟨wb, 4, none⟩) lw hwn).trans b4, i3, ⟨n, hn, ?_⟩, k1, k1s, k1m⟩, K⟩
    refine (m2.kept k3 (fun q => ?_)).congr (fun r _ => hg r)
    rcases q with q | q
    · rw [q] at k1m; omega
    · rw [q] at k1m; omega
  have HIA : Hid (∀ w2, Kept (fun i => i = mb) w w2 → IsA w2 ab sb cap a ∧ w2.cell? ⟨wb, 3, none⟩ = some (.pointer (some ⟨ab, 0, none⟩)) ∧ w2.cell? ⟨t.b, 2, none⟩ = some (.int .i64 t.x.h) ∧ wb < w2.heap.size ∧ t.b < w2.heap.size) := Lib.hid fun w2 k => by
    have k1 := h.kab
    have k1s := h.ksb
    have k1m := h.kmb
    have kw := h.kw
    exact ⟨h.ar.kept k (fun q => by rw [q] at k1; omega) (fun q => by rw [q] at k1s; omega), (k.cell (a := ⟨wb, 3, none⟩) lw (fun (q : wb = mb) => by rw [q] at kw; omega)).trans c3, (k.cell (a := ⟨t.b, 2, none⟩) ltb (fun (q : t.b = mb) => by rw [q] at hk; omega)).trans hx, Nat.lt_of_lt_of_le lw k.size, Nat.lt_of_lt_of_le ltb k.size⟩
  clear h hm hf hg hl hnd ht hold
  go_enter Tryd.func47, Tryd.ntmps47
  go_wp2
  refine wp_region_still_tail 8 (by kernel_rfl) (by kernel_rfl) ?_
  simp only [List.take_succ_cons, List.take_zero, List.drop_succ_cons, List.drop_zero]
  change wpStill _ _ (World.drew _) (fun a' => wpList _ _ _ _ a' (World.drew _)) _ _
  have e4 : w.drew.cell? ⟨wb, 4, none⟩ = some (.map (some mb)) := c4
  have e2 : w.drew.cell? ⟨t.b, 2, none⟩ = some (.int .i64 t.x.h) := hx
  have el : t.b < w.drew.heap.size := ltb
  have elw : wb < w.drew.heap.size := lw
  have HMD : Hid (MapN Tryd.prog 30 readB datB w.drew mb n (tsM'.length + 1) (gm tsM)) := Lib.hid (HM.out.kept ((Kept.refl (fun _ => False) w).drew) (fun h => h))
  have HKD : Hid (∀ w2, Kept (fun i => i = mb) w.drew w2 → Kept (fun i => i = mb) w w2) := Lib.hid fun w2 k => ((Kept.refl (fun i => i = mb) w).drew).trans k (fun _ _ h => h)
  clear c3 c4 hx ltb lw
  generalize w.drew = W at e4 e2 el elw HMD HKD ⊢
  iterate 8 still_step
  refine wpStill_nil ?_
  refine wpList_deleteN (P := Tryd.prog) rfl (.tmp 7) (.tmp 11) 76 rfl 90 Tryd.underlying30 Tryd.underlying76 mb n tsM'.length (gm tsM) rfl HMD.out t.x.h rfl HW.out HO.out ?_
  intro w2 m2 k2
  have HK2 := Lib.hid (HKD.out w2 k2)
  have HM2 := Lib.hid m2
  obtain ⟨i2, d3, d2, dlw, dlt⟩ := HIA.out w2 HK2.out
  have HI2 := Lib.hid i2
  clear m2 k2 i2 e4 e2 el elw
  go_wp2
  refine wp_region_still_tail 8 (by kernel_rfl) (by kernel_rfl) ?_
  simp only [List.take_succ_cons, List.take_zero, List.drop_succ_cons, List.drop_zero]
  change wpStill _ _ (World.drew _) (fun a' => wpList _ _ _ _ a' (World.drew _)) _ _
  have e3 : w2.drew.cell? ⟨wb, 3, none⟩ = some (.pointer (some ⟨ab, 0, none⟩)) := d3
  have e2 : w2.drew.cell? ⟨t.b, 2, none⟩ = some (.int .i64 t.x.h) := d2
  have el : t.b < w2.drew.heap.size := dlt
  have elw : wb < w2.drew.heap.size := dlw
  have HCC := Lib.hid (HFR.out w2.drew (HI2.out.kept ((Kept.refl (fun _ => False) w2).drew) (fun h => h) (fun h => h)))
  have HKD2 : Hid (∀ w3, Kept (fun b => b = ab ∨ b = sb) w2.drew w3 → Kept (fun b => b = ab ∨ b = sb) w2 w3) := Lib.hid fun w3 k => ((Kept.refl (fun b => b = ab ∨ b = sb) w2).drew).trans k (fun _ _ h => h)
  clear d3 d2 dlw dlt
  generalize w2.drew = W2 at e3 e2 el elw HCC HKD2 ⊢
  iterate 8 still_step
  refine wpStill_nil ?_
  go_wp2_with (go_at_call 68; refine HCC.out.mono ?_; rintro e w3 ⟨rfl, i3, k3⟩)
  go_end0
  exact ⟨rfl, HFIN.out w2 w3 HM2.out HK2.out i3 (HKD2.out w3 k3)⟩
end Go.Proofs.YtjlcchjcppkbjaaDoor
