/- WiMost2: texts for the statements of this seat: contracts of functions, walks, plain laws. Conditions: none. -/
import Derived.Deep.RegionWith
import Derived.Deep.DeepCutAuto
import Derived.Test.YtelgknecainlfaaWiMost
set_option linter.all false
/- The program's Most. -/
namespace Go.Proofs.Ytelgknecainlfaa
open Go.RowKit
open Wi (vld Srt chk longE)

theorem okp.down {l : List Int} {L : Int} {i j k : Nat} (hs : Srt l) (h : okp l L i k) (hij : i ≤ j) (hjk : j ≤ k) : okp l L i j := by
  obtain ⟨x, z, hx, hz, -, h⟩ := h
  have hk := (List.getElem?_eq_some_iff.1 hz).1
  have hjl : j < l.length := by omega
  have := hs.mono hjk (get_of hjl) hz
  exact ⟨x, l[j], hx, get_of hjl, hij, by omega⟩
theorem or_n (W : World) (x y : Int) (t c : Nat) : Calls Try.prog 40 #[.slice (some ⟨W.heap.size, 0, none⟩) 2 c] (W.alloc (.cells #[.int .i64 x, .int .i64 y] t)) fun e w' => e = .returned (.int .i64 (or2 x y)) ∧ W.alloc (.cells #[.int .i64 x, .int .i64 y] t) = w' :=
  or_c x y (by rw [World.cell?_alloc_at _ _ _ _ rfl]; rfl) (by rw [World.cell?_alloc_at _ _ _ _ rfl]; rfl)
set_option maxRecDepth 100000 in
set_option maxHeartbeats 4000000 in
theorem most_c {w : World} {v : Value} {l : List Int} (h : Ints w v l) (hl : l.length ≤ 4611686018427387904) (L : Int) : Calls Try.prog 22 #[v, .int .i64 L] w (MostPost l L w) := by
  have HQ := Lib.hid h
  have HC := Lib.hid (fun W K => check_c (w := W) (h.same K) hl)
  obtain ⟨aa, cap, rfl⟩ := h.len
  obtain ⟨n, hn⟩ : ∃ n : Nat, n = l.length := ⟨_, rfl⟩
  rw [← hn] at hl HC HQ ⊢
  have HN := Lib.hid hn
  clear h hn
  have HK0 := Lib.hid (((Kept.refl (fun _ => False) w).alloc (.cells #[.slice aa n cap] 24)).alloc (.cells #[.int .i64 L] 2))
  have HRT := Lib.hid ((RowAt.new w 24 #[.slice aa n cap]).same ((Kept.refl (fun _ => False) _).alloc (.cells #[.int .i64 L] 2)))
  have HRL := Lib.hid (RowAt.new (w.alloc (.cells #[.slice aa n cap] 24)) 2 #[.int .i64 L])
  have HAB : Hid (w.heap.size < ((w.alloc (.cells #[.slice aa n cap] 24)).alloc (.cells #[.int .i64 L] 2)).heap.size ∧ (w.alloc (.cells #[.slice aa n cap] 24)).heap.size = w.heap.size + 1 ∧ w.heap.size + 1 < ((w.alloc (.cells #[.slice aa n cap] 24)).alloc (.cells #[.int .i64 L] 2)).heap.size) := Lib.hid (by refine ⟨?_, ?_, ?_⟩ <;> simp <;> omega)
  rw [HAB.out.2.1] at HRL
  go_enter Try.func22, Try.ntmps22
  go_upto_region 1 with fail
  obtain ⟨A, hA⟩ : ∃ A, w.heap.size = A := ⟨_, rfl⟩
  obtain ⟨B, hB⟩ : ∃ B, A + 1 = B := ⟨_, rfl⟩
  rw [hA] at HRT HRL HAB
  rw [hB] at HRL HAB
  simp only [hA, hB]
  have HA := Lib.hid hA
  have HAneB : Hid (A < B) := Lib.hid (by omega)
  clear hA hB
  generalize (w.alloc (.cells #[.slice aa n cap] 24)).alloc (.cells #[.int .i64 L] 2) = W0 at HRT HRL HAB HK0 ⊢
  go_cut [6] from 11 to 16 (fun s6 wx => s6 = .int .i64 (mostE l L) ∧ Kept (fun _ => False) W0 wx)
  case first =>
    have c0 := HRT.out.get (j := 0) rfl
    have c1 := HRL.out.get (j := 0) rfl
    have hAl := HRT.out.lt
    have hBl := HRL.out.lt
    go_region_with (first | (go_at_call 31; refine (HC.out _ (by first | exact HK0.out | exact HK0.out.drew | exact HK0.out.drewN _)).mono ?_; rintro e w1 ⟨rfl, K1⟩; have HK1 := Lib.hid ((Kept.refl (fun _ => False) W0).drew.trans K1 (fun _ _ h => h)); have d1 := (HRL.out.same HK1.out).get (j := 0) rfl; clear K1) | (go_at_call 38; refine (long_c _ _).mono ?_; rintro e w2 ⟨rfl, rfl⟩) | (go_at_call 40; refine (or_n _ _ _ _ _).mono ?_; rintro e w3 ⟨rfl, rfl⟩))
    all_goals
      go_wp2_with fail
      go_meet
      exact ⟨rfl, HK1.out.alloc _⟩
  case rest =>
    obtain ⟨rfl, K1⟩ := hcut
    have HK1 := Lib.hid K1
    clear K1
    by_cases hz : mostE l L = 0
    · obtain ⟨hc, hlg⟩ := mostE_ok hz
      have HZ := Lib.hid hz
      have hgood := Wi.chk_good.1 hc
      have hn5 : n ≤ 100000 := by have := hgood.len; have := HN.out; omega
      have HG := Lib.hid hgood.vld
      have HS := Lib.hid hgood.srt
      have hL : 0 ≤ L := by
        rcases longE_cases L with ⟨-, h, -⟩ | ⟨h, -⟩
        · exact h
        · rw [h] at hlg; cases hlg
      rw [hz]
      clear hz hc hlg hgood
      have HQ1 := Lib.hid ((HQ.out.same HK0.out).same HK1.out)
      have HRT1 := Lib.hid (HRT.out.same HK1.out)
      have HRL1 := Lib.hid (HRL.out.same HK1.out)
      have HKW := Lib.hid (HK0.out.trans HK1.out (fun _ _ h => h))
      clear HRT HRL HK0 HQ HC HAB HK1
      have HRF := Lib.hid (RowAt.new wc 3 #[.int .i64 0])
      have HKF := Lib.hid ((Kept.refl (fun _ => False) wc).alloc (.cells #[.int .i64 0] 3))
      obtain ⟨F, hF⟩ : ∃ F, wc.heap.size = F := ⟨_, rfl⟩
      have hAF : A < F := by have := HRT1.out.lt; omega
      have hBF : B < F := by have := HRL1.out.lt; omega
      have HVF : Hid (0 < n → (Value.slice aa n cap).ownBlock ≠ some F) := Lib.hid fun h0 e => by
        have := HQ1.out.block e (by have := HN.out; omega); omega
      have HFW : Hid (w.heap.size ≤ F) := Lib.hid (by rw [← hF]; exact HKW.out.size)
      rw [hF] at HRF
      have cA := (HRT1.out.same HKF.out).get (j := 0) rfl
      have HQ2 := Lib.hid (HQ1.out.same HKF.out)
      have HRT2 := Lib.hid (HRT1.out.same HKF.out)
      have HRL2 := Lib.hid (HRL1.out.same HKF.out)
      have HKW2 := Lib.hid (HKW.out.trans HKF.out (fun _ _ h => h))
      have HM0 : Hid (MaxOf (fun i k => k < 0 ∧ okp l L i k) 0) := Lib.hid (MaxOf.none fun i j h => by omega)
      clear HQ1 HRT1 HRL1 HKW HKF
      go_wp2
      generalize wc.alloc (.cells #[.int .i64 0] 3) = W1 at HRF HQ2 HRT2 HRL2 HKW2 cA ⊢
      clear cA
      go_loopw [7, 23] (fun bv i wr => ∃ (j b f : Nat), j ≤ n ∧ i = .int .i64 j ∧ bv = .int .i64 b ∧ b ≤ j ∧ f ≤ j ∧ MaxOf (fun i k => k < j ∧ okp l L i k) b ∧ (∀ i k, i < f → j ≤ k → ¬ okp l L i k) ∧ RowAt wr F [.int .i64 f] ∧ Kept (fun b => b = F) W1 wr) (fun _ i _ => match i with | .int _ x => (n - x).toNat | _ => 0)
      case atStart => exact ⟨0, 0, 0, Nat.zero_le _, rfl, rfl, Nat.zero_le _, Nat.zero_le _, HM0.out, fun i k h => absurd h (by omega), HRF.out, Kept.refl _ _⟩
      case round =>
        obtain ⟨j, b, f, hj, rfl, rfl, hbj, hfj, hm, hno, hr, K⟩ := hrel
        have HM := Lib.hid hm
        have HNO := Lib.hid hno
        have HR := Lib.hid hr
        have HK := Lib.hid K
        clear hm hno hr K HRF HM0
        by_cases hlt : j < n
        · have HQ3 := Lib.hid (HQ2.out.kept HK.out (fun b hb h0 e => HVF.out (by omega) (by rw [hb, e])))
          have HT3 := Lib.hid (HRT2.out.kept HK.out (by omega))
          have HL3 := Lib.hid (HRL2.out.kept HK.out (by omega))
          have HCC := Lib.hid (most41_c HQ3.out HN.out hn5 HG.out L hL A F B j f hlt hfj (HT3.out.get (j := 0) rfl) HT3.out.lt HR.out (HL3.out.get (j := 0) rfl) HL3.out.lt (by omega) (by omega) (HVF.out (by omega)))
          go_wp2_with (go_at_call 41; fail)
          refine HCC.out.mono ?_
          rintro e wg ⟨g, hg1, hg2, rfl, hng, hgk, hrg, hkg⟩
          have HMX : Hid ((if (b : Int) < (j : Int) - (g : Int) + 1 then (j : Int) - (g : Int) + 1 else (b : Int)) = ((max b (j - g + 1) : Nat) : Int)) := Lib.hid (by split <;> omega)
          have HM2 : Hid (MaxOf (fun i k => k < j + 1 ∧ okp l L i k) (max b (j - g + 1))) := Lib.hid (HM.out.step (fun i k h => ⟨by omega, h.2⟩) (fun i k h => by
            rcases Nat.lt_or_ge k j with q | q
            · exact .inl ⟨q, h.2⟩
            · obtain rfl : k = j := by omega
              right
              rcases Nat.lt_or_ge i f with q2 | q2
              · exact absurd h.2 (HNO.out i k q2 (Nat.le_refl _))
              · rcases Nat.lt_or_ge i g with q3 | q3
                · exact absurd h.2 (hng i q2 q3)
                · omega) ⟨g, j, ⟨by omega, hgk⟩, by omega⟩)
          have HNO2 : Hid (∀ i k, i < g → j + 1 ≤ k → ¬ okp l L i k) := Lib.hid fun i k hi hk q => by
            rcases Nat.lt_or_ge i f with q2 | q2
            · exact HNO.out i k q2 (by omega) q
            · exact hng i q2 hi (okp.down HS.out q (by omega) (by omega))
          have HB : Hid (max b (j - g + 1) ≤ j + 1) := Lib.hid (by omega)
          have HRG := Lib.hid hrg
          have HKG := Lib.hid (HK.out.trans hkg (fun _ _ h => h))
          clear hng hgk hrg hkg
          generalize hmx : max b (j - g + 1) = mx at HMX HM2 HB
          clear hmx
          obtain ⟨d, hd⟩ : ∃ d, (j : Int) - (g : Int) + 1 = d := ⟨_, rfl⟩
          rw [hd] at HMX ⊢
          clear hd
          go_wp2
          go_roundw
          case rel => exact ⟨j + 1, mx, g, by omega, by go_num, by rw [HMX.out], HB.out, by omega, HM2.out, HNO2.out, HRG.out, HKG.out⟩
          case measure => simp; omega
        · have HF : Hid (MaxOf (okp l L) b) := Lib.hid (HM.out.congr fun i k => ⟨fun h => h.2, fun h => ⟨by have := h.lt; have := HN.out; omega, h⟩⟩)
          go_wp2
          go_ret2
          exact ⟨b, by rw [HZ.out]; rfl, by rw [if_pos HZ.out]; exact HF.out, by omega, HKW2.out.trans HK.out (fun i hi h => by have := HFW.out; omega)⟩
    · have HZ := Lib.hid hz
      obtain ⟨r, hr⟩ : ∃ r, mostE l L = r := ⟨_, rfl⟩
      rw [hr] at hz ⊢
      have hb : (r != 0) = true := by simpa using hz
      have HRR := Lib.hid hr
      clear hz hr
      go_wp2
      go_ret2
      exact ⟨0, by rw [HRR.out]; rfl, by rw [if_neg HZ.out], Nat.zero_le _, HK0.out.trans HK1.out (fun _ _ h => h)⟩
end Go.Proofs.Ytelgknecainlfaa
