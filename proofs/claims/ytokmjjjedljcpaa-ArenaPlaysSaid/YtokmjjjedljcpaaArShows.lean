/- ArShows: texts for the statements of this seat: contracts of functions, walks, plain laws. Conditions: none. -/
import Derived.Test.YtokmjjjedljcpaaArRCopyW
import Derived.Test.YtokmjjjedljcpaaArLiveA
set_option linter.all false
/- shows: the program's arena and the document's show the same. -/
namespace Go.Proofs.Ytokmjjjedljcpaa
open Go.RowKit
theorem IsA.same {w w' : World} {ab sb cap : Nat} {a : AA} (I : IsA w ab sb cap a) (K : Kept (fun _ => False) w w') : IsA w' ab sb cap a := I.kept K (fun q => q) (fun q => q)
theorem IsA.aok {w : World} {ab sb cap : Nat} {a : AA} (I : IsA w ab sb cap a) : AOk a := let ⟨_, _, r⟩ := I; r.aok
theorem live_bd {a : AA} (ok : AOk a) : ∀ x ∈ a.live, x ≤ 9223372036854775807 := fun x hx => by
  unfold AA.live at hx
  obtain ⟨k, hk, rfl⟩ := List.mem_map.1 hx
  unfold AA.hnd
  cases hs : a.sl[k]? with
  | none => simp
  | some s =>
    have h1 := ok.use k s hs
    have h2 := (List.getElem?_eq_some_iff.1 hs).1
    have h3 := ok.len
    simp only []
    omega
set_option maxRecDepth 100000 in
set_option maxHeartbeats 4000000 in
theorem shows_c {w : World} {ab sb cap base rb : Nat} {v1 v2 v3 v4 : Value} {a : AA} (I : IsA w ab sb cap a) (R : IsR w base rb v1 v2 v3 v4 a) (hh : Int) (hb : hh ≤ 9223372036854775807) :
    Calls Try.prog 23 #[.pointer (some ⟨ab, 0, none⟩), .pointer (some ⟨rb, 0, none⟩), .int .i64 hh] w fun e w' => e = .returned (.bool true) ∧ Kept (fun _ => False) w w' := by
  have HI := Lib.hid I
  have HR := Lib.hid R
  have HOK := Lib.hid I.aok
  have HLB := Lib.hid (live_bd I.aok)
  obtain ⟨L, hL⟩ : ∃ L, a.live = L := ⟨_, rfl⟩
  obtain ⟨n, hn⟩ : ∃ n, L.length = n := ⟨_, rfl⟩
  have HL := Lib.hid hL
  have HN := Lib.hid hn
  have HLEN : Hid (a.len = n) := Lib.hid (by rw [← AA.live_length, hL, hn])
  have hnl : n ≤ 4096 := by
    rw [← HLEN.out]
    unfold AA.len
    have h1 := List.countP_le_length (p := fun s : U => s.taken) (l := a.sl)
    have := I.aok.len
    omega
  clear I R hL hn
  go_enter Try.func23, Try.ntmps23
  go_wp2_with (go_at_call 17; fail)
  refine (live_a HI.out).mono ?_
  rintro e w1 ⟨va, rfl, ha, K1⟩
  rw [HL.out, HN.out] at ha
  obtain ⟨pa, ca, hva⟩ := own_v ha
  subst hva
  have HA1 := Lib.hid ha
  have HI1 := Lib.hid (HI.out.same K1)
  have HR1 := Lib.hid (HR.out.same K1)
  have HK1 := Lib.hid K1
  clear ha K1 HI HR
  go_wp2_with (go_at_call 35; fail)
  refine (rlive_c HR1.out HOK.out).mono ?_
  rintro e w2 ⟨vb, rfl, hro⟩
  rw [HL.out] at hro
  have hb2 := hro.1
  rw [HN.out, cells_ints] at hb2
  obtain ⟨pb, cb, hvb⟩ := own_v hb2
  subst hvb
  have HB2 := Lib.hid hb2
  have HA2 := Lib.hid (ownsRow_kept HA1.out hro.2.2 (fun _ _ _ h => h))
  have HI2 := Lib.hid (HI1.out.same hro.2.2)
  have HR2 := Lib.hid (HR1.out.same hro.2.2)
  have HK2 := Lib.hid (HK1.out.trans hro.2.2 (fun _ _ h => h))
  clear hb2 hro HA1 HI1 HR1 HK1
  have hlc : (a.len : Int) = (n : Int) := by rw [HLEN.out]
  have HLC := Lib.hid (len_a HI2.out hlc)
  clear hlc
  go_wp2_with (go_at_call 13; fail)
  refine HLC.out.mono ?_
  rintro e w3 ⟨rfl, rfl⟩
  have hrl := rlen_c HR2.out HOK.out
  rw [HLEN.out] at hrl
  have HRL := Lib.hid hrl
  clear hrl HLC
  go_wp2_with (go_at_call 36; fail)
  refine HRL.out.mono ?_
  rintro e w3 ⟨rfl, K3⟩
  have HA3 := Lib.hid (ownsRow_kept HA2.out K3 (fun _ _ _ h => h))
  have HB3 := Lib.hid (ownsRow_kept HB2.out K3 (fun _ _ _ h => h))
  have HI3 := Lib.hid (HI2.out.same K3)
  have HR3 := Lib.hid (HR2.out.same K3)
  have HK3 := Lib.hid (HK2.out.trans K3 (fun _ _ h => h))
  clear K3 HRL HA2 HB2 HI2 HR2 HK2
  obtain ⟨rm, hrm⟩ : ∃ rm : Nat, a.room = rm := ⟨_, rfl⟩
  have hra := room_a HI3.out (n := (rm : Int)) (by rw [hrm])
  have HRA := Lib.hid hra
  have HRM := Lib.hid hrm
  clear hra hrm
  go_wp2_with (go_at_call 14; fail)
  refine HRA.out.mono ?_
  rintro e w4 ⟨rfl, hi4, K4⟩
  have HA4 := Lib.hid (ownsRow_kept HA3.out K4 (fun _ _ _ h => h))
  have HB4 := Lib.hid (ownsRow_kept HB3.out K4 (fun _ _ _ h => h))
  have HI4 := Lib.hid hi4
  have HR4 := Lib.hid (HR3.out.same K4)
  have HK4 := Lib.hid (HK3.out.trans K4 (fun _ _ h => h))
  clear K4 hi4 HRA HA3 HB3 HI3 HR3 HK3
  have hrr := rroom_c HR4.out HOK.out
  rw [HRM.out] at hrr
  have HRR := Lib.hid hrr
  clear hrr
  go_wp2_with (go_at_call 37; fail)
  refine HRR.out.mono ?_
  rintro e w5 ⟨rfl, K5⟩
  have HA5 := Lib.hid (ownsRow_kept HA4.out K5 (fun _ _ _ h => h))
  have HB5 := Lib.hid (ownsRow_kept HB4.out K5 (fun _ _ _ h => h))
  have HI5 := Lib.hid (HI4.out.same K5)
  have HR5 := Lib.hid (HR4.out.same K5)
  have HK5 := Lib.hid (HK4.out.trans K5 (fun _ _ h => h))
  clear K5 HRR HA4 HB4 HI4 HR4 HK4
  go_wp2
  go_loopw [43] (fun i wr => ∃ j : Nat, j ≤ n ∧ i = .int .i64 j ∧ Kept (fun _ => False) w5 wr) (fun i _ => match i with | .int _ x => (n - x).toNat | _ => 0)
  case atStart => exact ⟨0, Nat.zero_le _, rfl, Kept.refl _ _⟩
  case round =>
    obtain ⟨j, hj, rfl, K⟩ := hrel
    have HK := Lib.hid K
    have HAr := Lib.hid (ownsRow_kept HA5.out K (fun _ _ _ h => h))
    have HBr := Lib.hid (ownsRow_kept HB5.out K (fun _ _ _ h => h))
    have HIr := Lib.hid (HI5.out.same K)
    have HRr := Lib.hid (HR5.out.same K)
    clear K
    by_cases hlt : j < n
    · obtain ⟨x, hx⟩ : ∃ x, L[j]? = some x := ⟨_, List.getElem?_eq_getElem (by rw [HN.out]; exact hlt)⟩
      have hxb := HLB.out x (by rw [HL.out]; exact List.mem_of_getElem? hx)
      obtain ⟨ga, da, hva, -, x0, -⟩ := own_cell HAr.out (k := j) (u := .int .i64 x) (by rw [List.getElem?_map, hx]; rfl)
      obtain ⟨gb, db, hvb, -, y0, -⟩ := own_cell HBr.out (k := j) (u := .int .i64 x) (by rw [List.getElem?_map, hx]; rfl)
      injection hva with e1 _ e3
      injection hvb with f1 _ f3
      subst e1 e3 f1 f3
      obtain ⟨gv, hgv⟩ : ∃ gv, (a.get x).1 = gv := ⟨_, rfl⟩
      obtain ⟨gt, hgt⟩ : ∃ gt, (a.get x).2 = gt := ⟨_, rfl⟩
      have hget : a.get x = (gv, gt) := by rw [← hgv, ← hgt]
      have HG := Lib.hid (get_a HIr.out hxb hget)
      have HG2 := Lib.hid hget
      have HX := Lib.hid hx
      have i1 : (0 : Int) ≤ (j : Int) := by omega
      have i2 : (j : Int) < (n : Int) := by omega
      clear hx hgv hgt hget
      go_wp2_with (go_at_call 16; fail)
      refine HG.out.mono ?_
      rintro e w6 ⟨rfl, rfl⟩
      have HG3 := Lib.hid (rget_c HRr.out HOK.out HG2.out)
      clear HG
      go_wp2_with (go_at_call 38; fail)
      refine HG3.out.mono ?_
      rintro e w7 ⟨rfl, K7⟩
      have z0 : w7.cell? ⟨ga, j, none⟩ = some (.int .i64 x) := by
        obtain ⟨g', c', q, -, q0, -⟩ := own_cell (ownsRow_kept HAr.out K7 (fun _ _ _ h => h)) (k := j) (u := .int .i64 x) (by rw [List.getElem?_map, HX.out]; rfl)
        injection q with q _ _
        injection q with q
        injection q with q
        subst q
        exact q0
      have z1 : w7.cell? ⟨gb, j, none⟩ = some (.int .i64 x) := by
        obtain ⟨g', c', q, -, q0, -⟩ := own_cell (ownsRow_kept HBr.out K7 (fun _ _ _ h => h)) (k := j) (u := .int .i64 x) (by rw [List.getElem?_map, HX.out]; rfl)
        injection q with q _ _
        injection q with q
        injection q with q
        subst q
        exact q0
      have HK7 := Lib.hid (HK.out.trans K7 (fun _ _ h => h))
      clear K7 x0 y0 HG3 HAr HBr HIr HRr HK
      go_wp2
      go_quiet (fail)
      go_wp2
      go_roundw
      case rel => exact ⟨j + 1, by omega, by go_num, HK7.out.drewN _⟩
      case measure => first | (simp; done) | (simp; omega)
    · obtain rfl : j = n := by omega
      obtain ⟨gv, hgv⟩ : ∃ gv, (a.get hh).1 = gv := ⟨_, rfl⟩
      obtain ⟨gt, hgt⟩ : ∃ gt, (a.get hh).2 = gt := ⟨_, rfl⟩
      have hget : a.get hh = (gv, gt) := by rw [← hgv, ← hgt]
      have HG := Lib.hid (get_a HIr.out hb hget)
      have HG3 := Lib.hid (rget_c HRr.out HOK.out hget)
      have HKR := Lib.hid (HK5.out.trans HK.out (fun _ _ h => h))
      clear hgv hgt hget HK
      go_wp2_with (go_at_call 16; fail)
      refine HG.out.mono ?_
      rintro e w6 ⟨rfl, rfl⟩
      go_wp2_with (go_at_call 38; fail)
      refine HG3.out.mono ?_
      rintro e w7 ⟨rfl, K7⟩
      have HK7 := Lib.hid (HKR.out.trans K7 (fun _ _ h => h))
      clear K7
      go_wp2
      go_ret
      exact ⟨rfl, HK7.out⟩
end Go.Proofs.Ytokmjjjedljcpaa
