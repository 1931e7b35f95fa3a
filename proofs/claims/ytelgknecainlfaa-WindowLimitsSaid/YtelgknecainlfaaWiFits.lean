/- Fits: which launch a limiter does not allow. -/
import Derived.Test.YtelgknecainlfaaWiGcra
import Derived.Test.YtelgknecainlfaaWiRuns
namespace Go.Proofs.Ytelgknecainlfaa
open Go.RowKit
open Wi (vld Srt chk limB limE inS longE)

/-- What Fits says. -/
def FitsR (T U : Int) (l : List Int) (k : Int) (wrong : Bool) : Prop :=
  (wrong = false ∧ k = 0 ∧ ∀ a b, a < b → ¬ Ey T U l a b) ∨ (wrong = true ∧ ∃ a b : Nat, k = b ∧ a < b ∧ Ey T U l a b ∧ ∀ a' b', a' < b' → b' < b → ¬ Ey T U l a' b')
theorem FitsR.keeps {T U : Int} {l : List Int} {k i j : Int} {wrong is : Bool} (h : FitsR T U l k wrong) (h' : KeepsR T U l i j is) : is = !wrong ∧ (is = true ∨ j = k) := by
  rcases h with ⟨rfl, -, h⟩ | ⟨rfl, a, b, rfl, hab, hE, h1⟩
  · rcases h' with ⟨rfl, -, -, -⟩ | ⟨rfl, a', b', -, -, hab', hE', -⟩
    · exact ⟨rfl, .inl rfl⟩
    · exact absurd hE' (h a' b' hab')
  · rcases h' with ⟨rfl, -, -, h'⟩ | ⟨rfl, a', b', -, rfl, hab', hE', h1', -⟩
    · exact absurd hE (h' a b hab)
    · refine ⟨rfl, .inr ?_⟩
      have : b = b' := by
        rcases Nat.lt_trichotomy b b' with q | q | q
        · exact absurd hE (h1' a b hab q)
        · exact q
        · exact absurd hE' (h1 a' b' hab' q)
      rw [this]
def FitsPost (T U : Int) (l : List Int) (w : World) (e : Ending) (w' : World) : Prop :=
  ∃ k wrong, e = .returned (.tuple #[.int .i64 k, .bool wrong, .int .i64 (bothE T U l)]) ∧ (if bothE T U l = 0 then FitsR T U l k wrong else k = 0 ∧ wrong = false) ∧ Kept (fun _ => False) w w'
theorem limB_E {T U : Int} : limB T U = true ↔ limE T U = 0 := by
  unfold limE
  cases limB T U <;> simp
/-- The first j are in order. -/
def srtU (l : List Int) (j : Nat) : Prop := ∀ i x y, i + 1 < j → l[i]? = some x → l[i + 1]? = some y → x ≤ y
theorem srtU.start (l : List Int) : srtU l 0 := fun i x y h => by omega
theorem srtU.one (l : List Int) : srtU l 1 := fun i x y h => by omega
theorem srtU.step {l : List Int} {j : Nat} {x y : Int} (hx : l[j]? = some x) (hy : l[j + 1]? = some y) : srtU l (j + 1 + 1) ↔ srtU l (j + 1) ∧ x ≤ y := by
  constructor
  · intro h
    exact ⟨fun i x y hi => h i x y (by omega), h j x y (by omega) hx hy⟩
  · rintro ⟨h, hxy⟩ i x' y' hi hx' hy'
    by_cases e : i = j
    · subst e; rw [hx] at hx'; rw [hy] at hy'; injection hx' with hx'; injection hy' with hy'; omega
    · exact h i x' y' (by omega) hx' hy'
theorem srtU.all {l : List Int} {j : Nat} (hj : l.length ≤ j) : srtU l j ↔ Srt l :=
  ⟨fun h i x y hx hy => h i x y (by have := (List.getElem?_eq_some_iff.1 hy).1; omega) hx hy, fun h i x y _ hx hy => h i x y hx hy⟩
/-- b says whether P. -/
def Bs (b : Bool) (P : Prop) : Prop := b = true ↔ P
theorem bothE_time {T U : Int} {l : List Int} (h : limE T U = 0) (h1 : ¬ 100000 < l.length) (h2 : l.all vld = false) : bothE T U l = 14 := by
  unfold bothE; rw [if_neg (by simp [h])]; exact Wi.chk_time h1 h2
theorem bothE_many {T U : Int} {l : List Int} (h : limE T U = 0) (h1 : 100000 < l.length) : bothE T U l = 12 := by
  unfold bothE; rw [if_neg (by simp [h])]; exact Wi.chk_many h1
theorem bothE_order {T U : Int} {l : List Int} (h : limE T U = 0) (h1 : ¬ 100000 < l.length) (h2 : l.all vld = true) (h3 : ¬ Srt l) : bothE T U l = 8 := by
  unfold bothE; rw [if_neg (by simp [h])]; exact Wi.chk_order h1 h2 h3
theorem bothE_good {T U : Int} {l : List Int} (h : limE T U = 0) (h1 : ¬ 100000 < l.length) (h2 : l.all vld = true) (h3 : Srt l) : bothE T U l = 0 := by
  unfold bothE; rw [if_neg (by simp [h])]; exact Wi.chk_ok h1 h2 h3
theorem bothE_rule {T U : Int} {l : List Int} (h : limE T U ≠ 0) : bothE T U l = 16 := by
  unfold bothE; rw [if_pos (by simpa using h)]
set_option maxRecDepth 100000 in
set_option maxHeartbeats 4000000 in
theorem fits_c {w : World} {v : Value} {l : List Int} (h : Ints w v l) (hl : l.length ≤ 4611686018427387904) (T U : Int) : Calls Try.prog 33 #[.agg #[.int .i64 T, .int .i64 U], v] w (FitsPost T U l w) := by
  have HROW := Lib.hid (RowAt.new w 23 #[.int .i64 T, .int .i64 U])
  have HK0 := Lib.hid ((Kept.refl (fun _ => False) w).alloc (.cells #[.int .i64 T, .int .i64 U] 23))
  have HSZ : Hid (w.heap.size ≤ (w.alloc (.cells #[.int .i64 T, .int .i64 U] 23)).heap.size) := Lib.hid (by simp)
  cases hlb : limB T U with
  | false =>
    have HE : Hid (bothE T U l = 16) := Lib.hid (bothE_rule (fun q => by rw [limB_E.2 q] at hlb; cases hlb))
    have HN := Lib.hid (fun W => new_bad hlb W)
    obtain ⟨aa, cap, rfl⟩ := h.len
    generalize l.length = n at hl ⊢
    clear h hlb
    go_enter Try.func33, Try.ntmps33
    go_upto_region 1 with fail
    generalize w.heap.size = b at HROW HSZ ⊢
    generalize w.alloc (.cells #[.int .i64 T, .int .i64 U] 23) = w0 at HROW HK0 HSZ ⊢
    have c0 := HROW.out.get (j := 0) rfl
    have c1 := HROW.out.get (j := 1) rfl
    have hb := HROW.out.lt
    go_wp2_with (go_at_call 50; fail)
    refine (HN.out _).mono ?_
    rintro e w1 ⟨rfl, K⟩
    go_wp2
    refine bodyPost_ret (results_tmp3 rfl _ _ _) rfl ?_
    exact ⟨0, false, by rw [HE.out]; rfl, by rw [if_neg (by rw [HE.out]; decide)]; exact ⟨rfl, rfl⟩, (HK0.out.trans K (fun _ _ h => h)).alloc _⟩
  | true =>
    have hle := limB_E.1 hlb
    obtain ⟨hT, hU, hTU⟩ := limE_ok hle
    have HLE := Lib.hid hle
    have HNW := Lib.hid (fun W => new_good hlb W)
    have HQ := Lib.hid h
    obtain ⟨aa, cap, rfl⟩ := h.len
    obtain ⟨n, hn⟩ : ∃ n : Nat, n = l.length := ⟨_, rfl⟩
    rw [← hn] at hl HQ ⊢
    have HN := Lib.hid hn
    clear h hlb hle hn
    go_enter Try.func33, Try.ntmps33
    go_upto_region 1 with fail
    generalize hbe : w.heap.size = b at HROW HSZ ⊢
    have HBE := Lib.hid hbe
    clear hbe
    generalize w.alloc (.cells #[.int .i64 T, .int .i64 U] 23) = w0 at HROW HK0 HSZ ⊢
    have c0 := HROW.out.get (j := 0) rfl
    have c1 := HROW.out.get (j := 1) rfl
    have hb := HROW.out.lt
    go_wp2_with (go_at_call 50; fail)
    refine (HNW.out _).mono ?_
    rintro e w1 ⟨B, hB, rfl, hrow, K⟩
    have HB : Hid (w.heap.size ≤ B) := Lib.hid (by rw [HBE.out]; exact Nat.le_trans HSZ.out hB)
    have HRW := Lib.hid (hrow.same ((Kept.refl (fun _ => False) w1).alloc (.cells #[.pointer (some ⟨B, 0, none⟩)] 68)))
    have HGNB : Hid (¬ w1.heap.size = B) := Lib.hid (by have := hrow.lt; omega)
    have HG := Lib.hid (RowAt.new w1 68 #[.pointer (some ⟨B, 0, none⟩)])
    have HGB : Hid (w.heap.size ≤ w1.heap.size) := Lib.hid (Nat.le_trans (by rw [HBE.out]; exact HSZ.out) K.size)
    have HK1 := Lib.hid ((HK0.out.trans K (fun _ _ h => h)).alloc (.cells #[.pointer (some ⟨B, 0, none⟩)] 68))
    clear hrow K c0 c1 hb HROW HSZ HK0 hB HBE HNW
    go_upto_region 2 with fail
    generalize w1.heap.size = G at HG HGB HGNB ⊢
    generalize w1.alloc (.cells #[.pointer (some ⟨B, 0, none⟩)] 68) = w2 at HRW HG HK1 ⊢
    by_cases h1 : (100000 : Int) < (n : Int)
    · have HE : Hid (bothE T U l = 12) := Lib.hid (bothE_many HLE.out (by have := HN.out; omega))
      go_wp2
      refine bodyPost_ret (results_tmp3 rfl _ _ _) rfl ?_
      exact ⟨0, false, by rw [HE.out]; rfl, by rw [if_neg (by rw [HE.out]; decide)]; exact ⟨rfl, rfl⟩, HK1.out⟩
    · have hNL : Hid (¬ 100000 < l.length) := Lib.hid (by have := HN.out; omega)
      go_wp2
      go_loopw [9, 28] (fun sv jv wr => ∃ (j : Nat) (so : Bool), j ≤ n ∧ jv = .int .i64 j ∧ sv = .bool so ∧ Bs so (srtU l j) ∧ (∀ q x, q < j → l[q]? = some x → vld x = true) ∧ w2 = wr) (fun _ i _ => match i with | .int _ x => (n - x).toNat | _ => 0)
      case atStart => exact ⟨0, true, Nat.zero_le _, rfl, rfl, ⟨fun _ => srtU.start l, fun _ => rfl⟩, fun q x h => absurd h (by omega), rfl⟩
      case round =>
        obtain ⟨j, so, hj, rfl, rfl, hso, hb, rfl⟩ := hrel
        have HSO := Lib.hid hso
        have HB5 := Lib.hid hb
        clear hso hb
        by_cases hlt : j < n
        · have hjl : j < l.length := by have := HN.out; omega
          obtain ⟨b0, off, cap', hv, hb0, hcell⟩ := (HQ.out.same HK1.out).pos (by have := HN.out; omega)
          rw [← HN.out] at hv
          injection hv with e1 e2 e3
          subst e1 e3
          have c0 := IntsK.at hcell hjl
          have HCL := Lib.hid hcell
          clear hcell e2
          have HX := Lib.hid (get_of hjl)
          generalize l[j] = x at c0 HX
          cases hv : vld x with
          | false =>
            have HV := Lib.hid (fun W => isTime_b false x W hv)
            have HE : Hid (bothE T U l = 14) := Lib.hid (bothE_time HLE.out hNL.out (all_bad HX.out hv))
            clear hv
            go_wp2_with (go_at_call 51; refine (HV.out _).mono ?_; rintro e w' ⟨rfl, rfl⟩)
            refine bodyPost_ret (results_tmp3 rfl _ _ _) rfl ?_
            exact ⟨0, false, by rw [HE.out]; rfl, by rw [if_neg (by rw [HE.out]; decide)]; exact ⟨rfl, rfl⟩, HK1.out⟩
          | true =>
            have HV := Lib.hid (fun W => isTime_b true x W hv)
            have HB2 := Lib.hid (runs_step HX.out hv HB5.out)
            clear hv
            by_cases h0 : j = 0
            · subst h0
              have HS2 : Hid (Bs so (srtU l 1)) := Lib.hid ⟨fun _ => srtU.one l, fun _ => HSO.out.2 (srtU.start l)⟩
              simp only [Int.natCast_zero, Int.ofNat_zero, Nat.add_zero] at c0 ⊢
              cases so with
              | true =>
                go_wp2_with (go_at_call 51; refine (HV.out _).mono ?_; rintro e w' ⟨rfl, rfl⟩)
                go_roundw
                case rel => exact ⟨1, true, by omega, by go_num, rfl, HS2.out, HB2.out, trivial⟩
                case measure => simp; omega
              | false =>
                go_wp2_with (go_at_call 51; refine (HV.out _).mono ?_; rintro e w' ⟨rfl, rfl⟩)
                go_roundw
                case rel => exact ⟨1, false, by omega, by go_num, rfl, HS2.out, HB2.out, trivial⟩
                case measure => simp; omega
            · obtain ⟨j, rfl⟩ := Nat.exists_eq_succ_of_ne_zero h0
              have hjl0 : j < l.length := by omega
              have c1 := IntsK.at HCL.out hjl0
              have HY := Lib.hid (get_of hjl0)
              generalize l[j] = y at c1 HY
              have HST := Lib.hid (srtU.step HY.out HX.out)
              have hj0 : (((j + 1 : Nat) : Int) == 0) = false := by simp; omega
              have hj1 : ((j + 1 : Nat) : Int) - 1 = (j : Int) := by omega
              cases so with
              | true =>
                by_cases hyx : y ≤ x
                · have HS2 : Hid (Bs true (srtU l (j + 1 + 1))) := Lib.hid ⟨fun _ => HST.out.2 ⟨HSO.out.1 rfl, hyx⟩, fun _ => rfl⟩
                  go_wp2_with (go_at_call 51; refine (HV.out _).mono ?_; rintro e w' ⟨rfl, rfl⟩)
                  go_roundw
                  case rel => exact ⟨j + 1 + 1, true, by omega, by go_num, rfl, HS2.out, HB2.out, trivial⟩
                  case measure => simp; omega
                · have HS2 : Hid (Bs false (srtU l (j + 1 + 1))) := Lib.hid ⟨fun h => (by cases h), fun h => absurd (HST.out.1 h).2 hyx⟩
                  go_wp2_with (go_at_call 51; refine (HV.out _).mono ?_; rintro e w' ⟨rfl, rfl⟩)
                  go_roundw
                  case rel => exact ⟨j + 1 + 1, false, by omega, by go_num, (by have hq : (((j : Int) + 1) == 0) = false := by simp; omega
                                                                                first | rfl | (rw [decide_eq_false (by omega)]; done) | (rw [decide_eq_false (by omega), hq]; done) | (rw [hq, Bool.false_or, decide_eq_false (by omega)])), HS2.out, HB2.out, trivial⟩
                  case measure => simp; omega
              | false =>
                have HS2 : Hid (Bs false (srtU l (j + 1 + 1))) := Lib.hid ⟨fun h => (by cases h), fun h => by have := HSO.out.2 (HST.out.1 h).1; cases this⟩
                go_wp2_with (go_at_call 51; refine (HV.out _).mono ?_; rintro e w' ⟨rfl, rfl⟩)
                go_roundw
                case rel => exact ⟨j + 1 + 1, false, by omega, by go_num, rfl, HS2.out, HB2.out, trivial⟩
                case measure => simp; omega
        · have HVA := Lib.hid (all_good HN.out (fun q x hq hx => HB5.out q x (by omega) hx))
          have HSA : Hid (so = true ↔ Srt l) := Lib.hid (HSO.out.trans (srtU.all (by have := HN.out; omega)))
          clear HB5 HSO
          cases so with
          | false =>
            have HE : Hid (bothE T U l = 8) := Lib.hid (bothE_order HLE.out hNL.out HVA.out (fun q => by have := HSA.out.2 q; cases this))
            go_wp2
            refine bodyPost_ret (results_tmp3 rfl _ _ _) rfl ?_
            exact ⟨0, false, by rw [HE.out]; rfl, by rw [if_neg (by rw [HE.out]; decide)]; exact ⟨rfl, rfl⟩, HK1.out⟩
          | true =>
            have HE : Hid (bothE T U l = 0) := Lib.hid (bothE_good HLE.out hNL.out HVA.out (HSA.out.1 rfl))
            have HVL : Hid (∀ x ∈ l, 0 ≤ x ∧ x ≤ 253402300799) := Lib.hid fun x hx => Wi.vld_iff.1 (List.all_eq_true.1 HVA.out x hx)
            clear HSA HVA
            go_wp2
            go_loopw [56] (fun jv wr => ∃ (j : Nat) (nx ls : Int), j ≤ n ∧ jv = .int .i64 j ∧ NI T l j nx ∧ (∀ a b, a < b → b < j → ¬ Ey T U l a b) ∧ RowAt wr B (lmr (decide (0 < j)) nx ls T U) ∧ RowAt wr G [.pointer (some ⟨B, 0, none⟩)] ∧ Kept (fun _ => False) w wr) (fun i _ => match i with | .int _ x => (n - x).toNat | _ => 0)
            case atStart => exact ⟨0, 0, 0, Nat.zero_le _, rfl, NI.start T l, fun a b _ h => absurd h (by omega), HRW.out, HG.out, HK1.out⟩
            case round =>
              obtain ⟨j, nx, ls, hj, rfl, hni, hey, hrow, hrg, K⟩ := hrel
              have HNI := Lib.hid hni
              have HEY := Lib.hid hey
              have hbd := hni.bd
              have HRR := Lib.hid hrow
              have HGG := Lib.hid hrg
              have HK := Lib.hid K
              clear hni hey hrow hrg K
              by_cases hlt : j < n
              · have hjl : j < l.length := by have := HN.out; omega
                obtain ⟨b0, off, cap', hv, hb0, hcell⟩ := (HQ.out.same HK.out).pos (by have := HN.out; omega)
                rw [← HN.out] at hv
                injection hv with e1 e2 e3
                subst e1 e3
                have c0 := IntsK.at hcell hjl
                clear hcell e2
                have hx := HVL.out l[j] (List.getElem_mem hjl)
                have HX := Lib.hid (get_of hjl)
                generalize l[j] = x at c0 HX hx
                have hgc := HGG.out.get (j := 0) rfl
                cases he : erlB (decide (0 < j)) nx T U x with
                | true =>
                  have HC := Lib.hid (launch_no (now := x) HRR.out hgc (by omega) hU he)
                  have HF : Hid (FitsR T U l j true) := Lib.hid (by
                    unfold erlB at he
                    simp only [Bool.and_eq_true, decide_eq_true_eq] at he
                    obtain ⟨a, ha, hE⟩ := (HNI.out.early (U := U) he.1.1 he.1.2 HX.out).1 he.2
                    exact .inr ⟨rfl, a, j, rfl, ha, hE, fun a' b' h1 h2 => HEY.out a' b' h1 h2⟩)
                  clear he
                  go_wp2_with (go_at_call 52; refine HC.out.mono ?_; rintro e w' ⟨rfl, K'⟩; have HKF := Lib.hid (HK.out.trans K' (fun _ _ h => h)); clear K')
                  refine bodyPost_ret (results_tmp3 rfl _ _ _) rfl ?_
                  exact ⟨j, true, by rw [HE.out]; rfl, by rw [if_pos HE.out]; exact HF.out, HKF.out⟩
                | false =>
                  have HC := Lib.hid (launch_yes (now := x) HRR.out hgc (by omega) hT hU hx he)
                  have HNN : Hid (∀ a b, a < b → b < j + 1 → ¬ Ey T U l a b) := Lib.hid fun a b h1 h2 hE => by
                    by_cases e : b = j
                    · subst e
                      have h0 : 0 < b := by omega
                      have := (HNI.out.early (U := U) hE.1 h0 HX.out).2 ⟨a, h1, hE⟩
                      unfold erlB at he
                      rw [decide_eq_true hE.1, decide_eq_true h0, decide_eq_true this] at he
                      cases he
                    · exact HEY.out a b h1 (by omega) hE
                  have hmx : max x nx = max nx x := by omega
                  rw [hmx] at HC
                  have HN2 := Lib.hid (HNI.out.step hT HX.out hx)
                  have hd1 : decide (0 < j + 1) = true := decide_eq_true (by omega)
                  have HD1 := Lib.hid hd1
                  clear he hmx hd1
                  go_wp2_with (go_at_call 52; refine HC.out.mono ?_; rintro e w' ⟨rfl, hr', K'⟩; have HR2 := Lib.hid hr'; have HG2 := Lib.hid (HGG.out.kept K' HGNB.out); have HKF := Lib.hid (HK.out.trans K' (fun i hi h => by have := HB.out; omega)); clear K' hr')
                  go_roundw
                  case rel => exact ⟨j + 1, max nx x + T, x, by omega, by go_num, HN2.out, HNN.out, by rw [HD1.out]; exact HR2.out, HG2.out, HKF.out⟩
                  case measure => simp; omega
              · have HF : Hid (FitsR T U l 0 false) := Lib.hid (.inl ⟨rfl, rfl, fun a b h1 h2 => HEY.out a b h1 (by have := h2.lt; have := HN.out; omega) h2⟩)
                go_wp2
                refine bodyPost_ret (results_tmp3 rfl _ _ _) rfl ?_
                exact ⟨0, false, by rw [HE.out]; rfl, by rw [if_pos HE.out]; exact HF.out, HK.out⟩
end Go.Proofs.Ytelgknecainlfaa
