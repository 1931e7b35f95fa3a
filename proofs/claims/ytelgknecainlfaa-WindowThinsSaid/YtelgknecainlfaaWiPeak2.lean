/- WiPeak2: texts for the statements of this seat: contracts of functions, walks, plain laws. Conditions: none. -/
import Derived.Test.YtelgknecainlfaaWiPkPlain
import Derived.Test.YtelgknecainlfaaWiWorks
set_option linter.all false
/- The program's Peak. -/
namespace Go.Proofs.Ytelgknecainlfaa
open Go.RowKit
open Wi (vld Srt chk)

theorem turns_c {w : World} {v u : Value} {f g : List Int} (h : Ints w v f) (k : Ints w u g) (hl : f.length ≤ 4611686018427387904) (hl2 : g.length ≤ 4611686018427387904) : Calls Try.prog 42 #[v, u] w (TurnsPost f g w) := by
  by_cases hb : 100000 < f.length ∨ f.length ≠ g.length
  · exact turns_bad h k hl hl2 hb
  · exact turns_good h k (by omega) (by omega)
theorem runsE_ok {f g : List Int} (h : runsE f g = 0) : f.length = g.length ∧ f.length ≤ 100000 ∧ (f.all vld && g.all vld) = true ∧ (f.zip g).any backB = false := by
  unfold runsE at h
  split at h
  · cases h
  · split at h
    · cases h
    · split at h
      · split at h
        · cases h
        · rename_i h1 h2 h3 h4
          exact ⟨by omega, by omega, h3, by simpa using h4⟩
      · cases h
theorem trn_len (f g : List Int) : (trn f g).length ≤ 2 * f.length := by
  have : ∀ z : List (Int × Int), (z.flatMap trn1).length ≤ 2 * z.length := by
    intro z
    induction z with
    | nil => simp
    | cons p z ih =>
      rw [List.flatMap_cons, List.length_append, List.length_cons]
      have := trn1_len p
      omega
  have h := this (f.zip g)
  rw [List.length_zip] at h
  unfold trn
  omega
theorem ct_le (l : List T2) : -(l.length : Int) ≤ ct l ∧ ct l ≤ l.length := by
  unfold ct
  have := List.countP_le_length (p := fun x : T2 => x.2) (l := l)
  have := List.countP_le_length (p := fun x : T2 => !x.2) (l := l)
  omega
set_option maxRecDepth 100000 in
set_option maxHeartbeats 4000000 in
theorem peak_c {w : World} {v u : Value} {f g : List Int} (h : Ints w v f) (k : Ints w u g) (hl : f.length ≤ 4611686018427387904) (hl2 : g.length ≤ 4611686018427387904) : Calls Try.prog 23 #[v, u] w (PeakPost f g w) := by
  have HT := Lib.hid (turns_c h k hl hl2)
  obtain ⟨aa, cap, rfl⟩ := h.len
  obtain ⟨ab, cbp, rfl⟩ := k.len
  generalize f.length = n at HT ⊢
  generalize g.length = m at HT ⊢
  clear h k hl hl2
  go_enter Try.func23, Try.ntmps23
  go_wp2_with (go_at_call 42; refine HT.out.mono ?_; rintro e w1 ⟨s, d, rfl, hs, hd, K1⟩; have HS := Lib.hid hs; have HD := Lib.hid hd; have HK1 := Lib.hid K1; obtain ⟨sa, sc, rfl⟩ := hs.len; obtain ⟨q, hq⟩ : ∃ q : Nat, q = d.length := ⟨_, rfl⟩; rw [← hq] at HS ⊢; have HQ := Lib.hid hq; clear hs hd K1 hq)
  have hq2 : q ≤ 200000 := by
    have h1 := HD.out
    have h2 := HQ.out
    split at h1
    · rename_i h3
      have := h1.1.length_eq
      have := trn_len f g
      have := (runsE_ok h3).2.1
      omega
    · rw [h1] at h2; simp at h2; omega
  go_loopw [9, 10, 11, 22] (fun nv bv tv jv wr => ∃ (j b : Nat) (t : Int), j ≤ q ∧ jv = .int .i64 j ∧ nv = .int .i64 (ct (d.take j)) ∧ bv = .int .i64 b ∧ tv = .int .i64 t ∧ b ≤ j ∧ PkT d j b t ∧ Kept (fun _ => False) w1 wr) (fun _ _ _ i _ => match i with | .int _ x => (q - x).toNat | _ => 0)
  case atStart => exact ⟨0, 0, 0, Nat.zero_le _, rfl, rfl, rfl, rfl, Nat.le_refl _, PkT.start d, Kept.refl _ _⟩
  case round =>
    obtain ⟨j, b, t, hj, rfl, rfl, rfl, rfl, hbj, hp, K⟩ := hrel
    have HP := Lib.hid hp
    have HK := Lib.hid K
    clear hp K
    have hcb := ct_le (d.take j)
    have hcl : (d.take j).length ≤ j := by rw [List.length_take]; exact Nat.min_le_left _ _
    by_cases hlt : j < q
    · have hjd : j < d.length := by have := HQ.out; omega
      obtain ⟨b0, off, cap', hv, hcp, hb0, hcell⟩ := (HS.out.same HK.out).pos (by have := HQ.out; omega)
      rw [← HQ.out] at hv
      injection hv with e1 e2 e3
      subst e1 e3
      have HX := Lib.hid (List.getElem?_eq_getElem hjd)
      have hcx := hcell j _ HX.out
      have HCT := Lib.hid (ct_snoc d HX.out)
      have HPT := Lib.hid (fun h => HP.out.pass (j := j) h)
      clear hcell
      generalize d[j] = x at hcx HX HCT
      obtain ⟨x, y⟩ := x
      obtain ⟨c0, c1⟩ := hcx
      simp only at c0 c1
      have htop := HP.out.top j (Nat.le_refl _)
      generalize hcc : ct (d.take j) = c at HCT hcb htop
      clear hcc
      cases y with
      | false =>
        have HN : Hid (ct (d.take (j + 1)) = c - 1) := Lib.hid (by rw [HCT.out]; simp; omega)
        have HP2 : Hid (PkT d (j + 1) b t) := Lib.hid (HPT.out (by rw [HN.out]; omega))
        go_wp2
        go_roundw
        case rel => exact ⟨j + 1, b, t, by omega, by go_num, by rw [HN.out], rfl, rfl, by omega, HP2.out, HK.out.alloc _⟩
        case measure => simp; omega
      | true =>
        have HN : Hid (ct (d.take (j + 1)) = c + 1) := Lib.hid (by rw [HCT.out]; simp)
        by_cases hbc : (b : Int) < c + 1
        · obtain ⟨b', hb'⟩ : ∃ b' : Nat, c + 1 = b' := ⟨(c + 1).toNat, by omega⟩
          have HP2 : Hid (PkT d (j + 1) b' x) := Lib.hid (HP.out.take HX.out (by rw [HN.out]; exact hb') (by omega))
          have HB := Lib.hid hb'
          clear hb'
          go_wp2
          go_quiet (fail)
          go_wp2
          go_roundw
          case rel => exact ⟨j + 1, b', x, by omega, by go_num, by rw [HN.out], by rw [HB.out], rfl, by have := HB.out; omega, HP2.out, (HK.out.alloc _).drewN _⟩
          case measure => simp; omega
        · have HP2 : Hid (PkT d (j + 1) b t) := Lib.hid (HPT.out (by rw [HN.out]; omega))
          go_wp2
          go_roundw
          case rel => exact ⟨j + 1, b, t, by omega, by go_num, by rw [HN.out], rfl, rfl, by omega, HP2.out, HK.out.alloc _⟩
          case measure => simp; omega
    · have HF : Hid ((if runsE f g = 0 then Pk f g b t else b = 0 ∧ t = 0) ∧ b ≤ f.length) := Lib.hid (by
        have h1 := HD.out
        split at h1
        · rename_i h3
          rw [if_pos h3]
          have hk := HP.out.done (f := f) (g := g) ⟨h1.1, h1.2, (runsE_ok h3).2.2.2⟩ (by have := HQ.out; omega)
          refine ⟨hk, ?_⟩
          rcases Nat.eq_zero_or_pos b with e | e
          · omega
          · have := atF_le f g t; have := (hk.is e).2; omega
        · rename_i h3
          rw [if_neg h3]
          have hb0 : b = 0 := by
            rcases Nat.eq_zero_or_pos b with e | e
            · exact e
            · obtain ⟨i, -, hi, -⟩ := HP.out.is e
              rw [h1] at hi; simp at hi
          exact ⟨⟨hb0, HP.out.no hb0⟩, by omega⟩)
      clear HP
      go_wp2
      refine bodyPost_ret (results_tmp3 rfl _ _ _) rfl ?_
      exact ⟨b, t, rfl, HF.out.1, HF.out.2, HK1.out.trans HK.out (fun _ _ h => h)⟩
theorem works_t {w : World} : Calls Try.prog 14 #[] w fun e w' => e = .returned (.bool true) ∧ Kept (fun _ => False) w w' := works_c peak_c
end Go.Proofs.Ytelgknecainlfaa
