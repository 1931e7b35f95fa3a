/- WiKeep2: texts for the statements of this seat: contracts of functions, walks, plain laws. Conditions: none. -/
import Derived.WalkMore
import Derived.Test.YtelgknecainlfaaWiKeep
set_option linter.all false
/- Keeps of the program. -/
namespace Go.Proofs.Ytelgknecainlfaa
open Go.RowKit
open Wi (vld Srt chk limB limE inS longE)

/-- What the launches so far ask of the next one. -/
structure NI (T : Int) (l : List Int) (j : Nat) (nx : Int) : Prop where
  le : ∀ a x, a < j → l[a]? = some x → x + ((j : Int) - a) * T ≤ nx
  ex : (j = 0 ∧ nx = 0) ∨ ∃ a x, a < j ∧ l[a]? = some x ∧ nx = x + ((j : Int) - a) * T
  bd : 0 ≤ nx ∧ nx ≤ 253402300799 + 68719476736 * j
theorem NI.start (T : Int) (l : List Int) : NI T l 0 0 := ⟨fun a x h _ => absurd h (by omega), .inl ⟨rfl, rfl⟩, by simp⟩
theorem succ_mul' (j a : Nat) (T : Int) : (((j + 1 : Nat) : Int) - a) * T = ((j : Int) - a) * T + T := by
  have : (((j + 1 : Nat) : Int) - a) = ((j : Int) - a) + 1 := by omega
  rw [this, Int.add_mul, Int.one_mul]
theorem NI.step {T : Int} {l : List Int} {j : Nat} {nx t : Int} (h : NI T l j nx) (hT : 0 ≤ T ∧ T ≤ 68719476736) (ht : l[j]? = some t) (h0 : 0 ≤ t ∧ t ≤ 253402300799) : NI T l (j + 1) (max nx t + T) := by
  refine ⟨fun a x ha hx => ?_, .inr ?_, ?_⟩
  · rw [succ_mul']
    by_cases e : a = j
    · subst e
      rw [ht] at hx
      injection hx with hx
      rw [Int.sub_self, Int.zero_mul]
      omega
    · have := h.le a x (by omega) hx
      omega
  · by_cases hm : nx ≤ t
    · refine ⟨j, t, by omega, ht, ?_⟩
      rw [succ_mul', Int.sub_self, Int.zero_mul, Int.max_eq_right hm]
      omega
    · rcases h.ex with ⟨-, h2⟩ | ⟨a, x, ha, hx, h2⟩
      · omega
      · refine ⟨a, x, by omega, hx, ?_⟩
        rw [succ_mul', Int.max_eq_left (by omega), h2]
        omega
  · have := h.bd
    have e : ((j + 1 : Nat) : Int) = (j : Int) + 1 := by omega
    rw [e]
    omega
theorem NI.early {T U : Int} {l : List Int} {j : Nat} {nx t : Int} (h : NI T l j nx) (hT : 0 < T) (hj : 0 < j) (ht : l[j]? = some t) : t < nx - U ↔ ∃ a, a < j ∧ Ey T U l a j := by
  constructor
  · intro hlt
    rcases h.ex with ⟨h1, -⟩ | ⟨a, x, ha, hx, h2⟩
    · omega
    · exact ⟨a, ha, hT, x, t, hx, ht, by omega⟩
  · rintro ⟨a, ha, -, x, y, hx, hy, hlt⟩
    rw [ht] at hy
    injection hy with hy
    subst hy
    have := h.le a x ha hx
    omega
set_option maxRecDepth 100000 in
set_option maxHeartbeats 4000000 in
theorem keeps_c {w : World} {v : Value} {l : List Int} (h : Ints w v l) (hl : l.length ≤ 4611686018427387904) (T U : Int) : Calls Try.prog 15 #[.agg #[.int .i64 T, .int .i64 U], v] w (KeepsPost T U l w) := by
  have HROW := Lib.hid (RowAt.new w 23 #[.int .i64 T, .int .i64 U])
  have HK0 := Lib.hid ((Kept.refl (fun _ => False) w).alloc (.cells #[.int .i64 T, .int .i64 U] 23))
  have HC := Lib.hid (fun W K => both34_c (w := W) (h.same K) hl T U)
  have HQ := Lib.hid h
  obtain ⟨aa, cap, rfl⟩ := h.len
  obtain ⟨n, hn⟩ : ∃ n : Nat, n = l.length := ⟨_, rfl⟩
  rw [← hn] at hl HC HQ ⊢
  have HN := Lib.hid hn
  clear h hn
  by_cases hz : bothE T U l = 0
  · obtain ⟨hlim, hg⟩ := bothE_ok hz
    obtain ⟨⟨t1, t2⟩, ⟨u1, u2⟩, hTU⟩ := limE_ok hlim
    have hn5 : n ≤ 100000 := by have := hg.len; have := HN.out; omega
    have HG := Lib.hid hg.vld
    have HZ := Lib.hid hz
    clear hz hlim hg hTU
    go_enter Try.func15, Try.ntmps15
    go_wp2
    go_step3
    go_wp2_with (go_at_call 34; fail)
    refine (HC.out _ HK0.out).mono ?_
    rintro e w1 ⟨rfl, K1⟩
    rw [HZ.out]
    have HR1 := Lib.hid (HROW.out.same K1)
    have HK1 := Lib.hid (HK0.out.trans K1 (fun _ _ h => h))
    clear K1 HROW HK0 HC
    obtain ⟨A, hA⟩ : ∃ A, w.heap.size = A := ⟨_, rfl⟩
    rw [hA] at HR1 ⊢
    clear hA
    have d0 := HR1.out.get (j := 0) rfl
    cases hTz : decide (T = 0) with
    | true =>
      have hb : (T == 0) = true := hTz
      have HKR : Hid (KeepsR T U l 0 0 true) := Lib.hid (.inl ⟨rfl, rfl, rfl, fun a b _ hE => by have := hE.1; have := of_decide_eq_true hTz; omega⟩)
      go_wp2
      (try simp only [Exit.noGoto_ret])
      refine bodyPost_ret (results_tmp4 rfl _ _ _) rfl ?_
      exact ⟨0, 0, true, by rw [HZ.out]; rfl, by rw [if_pos HZ.out]; exact HKR.out, HK1.out⟩
    | false =>
      have hT0 : 0 < T := by have := of_decide_eq_false hTz; omega
      have hb : (T == 0) = false := hTz
      clear d0
      have d0 := HR1.out.get (j := 0) rfl
      go_wp2
      go_step3
      go_wp2
      go_loopw [9, 24] (fun s i wr => ∃ (j : Nat) (nx : Int), j ≤ n ∧ i = .int .i64 j ∧ s = .int .i64 nx ∧ NI T l j nx ∧ (∀ a b, a < b → b < j → ¬ Ey T U l a b) ∧ Kept (fun _ => False) w1 wr) (fun _ i _ => match i with | .int _ x => (n - x).toNat | _ => 0)
      case atStart => exact ⟨0, 0, Nat.zero_le _, rfl, rfl, NI.start T l, fun a b _ hb => absurd hb (by omega), Kept.refl _ _⟩
      case round =>
        obtain ⟨j, nx, hj, rfl, rfl, hni, hno, K⟩ := hrel
        have HNI := Lib.hid hni
        have HNO := Lib.hid hno
        have HK := Lib.hid K
        obtain ⟨b1, b2⟩ := hni.bd
        clear hno K hni
        have HR2 := Lib.hid (HR1.out.same HK.out)
        by_cases hlt : j < n
        · have hjl : j < l.length := by have := HN.out; omega
          obtain ⟨b0, off, cap', hv, hb0, hcell⟩ := ((HQ.out.same HK1.out).same HK.out).pos (by have := HN.out; omega)
          rw [← HN.out] at hv
          injection hv with e1 e2 e3
          subst e1 e3
          have c1 := IntsK.at hcell hjl
          have hy := HG.out l[j] (List.getElem_mem hjl)
          have HY := Lib.hid (get_of hjl)
          have HST := Lib.hid (HNI.out.step ⟨t1, t2⟩ (get_of hjl) hy)
          have HEA := Lib.hid (fun h0 => HNI.out.early (U := U) hT0 h0 (get_of hjl))
          clear hcell
          generalize l[j] = t at c1 hy HY HST HEA
          have d0 := HR2.out.get (j := 0) rfl
          have d1 := HR2.out.get (j := 1) rfl
          have HMX : Hid ((if nx < t then t else nx) = max nx t) := Lib.hid (by split <;> omega)
          by_cases hj0 : 0 < j
          · have hj0' : (0 : Int) < (j : Int) := by omega
            by_cases hea : t < nx - U
            · obtain ⟨a0, ha0, hE0⟩ := (HEA.out hj0).1 hea
              have HE0 := Lib.hid hE0
              clear hE0
              go_wp2
              go_loopw [12] (fun i wy => ∃ q : Nat, q ≤ j ∧ i = .int .i64 ((q : Int) - 1) ∧ (∀ a, q ≤ a → a < j → ¬ Ey T U l a j) ∧ Kept (fun _ => False) w1 wy) (fun i _ => match i with | .int _ x => (x + 1).toNat | _ => 0)
              case atStart => exact ⟨j, Nat.le_refl _, rfl, fun a h1 h2 => absurd h1 (by omega), HK.out⟩
              case round =>
                obtain ⟨q, hq, rfl, hno2, K⟩ := hrel
                have HNO2 := Lib.hid hno2
                have HK2 := Lib.hid K
                clear hno2 K c1 d0 d1
                have HR3 := Lib.hid (HR1.out.same HK2.out)
                by_cases hq0 : q = 0
                · exact absurd HE0.out (HNO2.out a0 (by omega) ha0)
                · obtain ⟨a, rfl⟩ : ∃ a, q = a + 1 := ⟨q - 1, by omega⟩
                  have ea : ((a + 1 : Nat) : Int) - 1 = (a : Int) := by omega
                  rw [ea]
                  have hal : a < l.length := by have := HN.out; omega
                  obtain ⟨b0', off', cap', hv, hb0', hcell⟩ := ((HQ.out.same HK1.out).same HK2.out).pos (by have := HN.out; omega)
                  rw [← HN.out] at hv
                  injection hv with e1 e2 e3
                  injection e1 with e1
                  injection e1 with e1 e4
                  subst e1 e4 e3
                  have c0 := IntsK.at hcell hal
                  have hx := HG.out l[a] (List.getElem_mem hal)
                  have HX := Lib.hid (get_of hal)
                  clear hcell
                  generalize l[a] = x at c0 hx HX
                  have d0 := HR3.out.get (j := 0) rfl
                  have d1 := HR3.out.get (j := 1) rfl
                  have hm : 0 ≤ ((j : Int) - a) * T ∧ ((j : Int) - a) * T ≤ 100000 * 68719476736 := ⟨Int.mul_nonneg (by omega) t1, Int.mul_le_mul (by omega) t2 t1 (by omega)⟩
                  have HEE : Hid (t - x + U < ((j : Int) - a) * T ↔ Ey T U l a j) := Lib.hid ⟨fun h => ⟨hT0, x, t, HX.out, HY.out, h⟩, fun h => by
                    obtain ⟨-, x', y', hx', hy', h⟩ := h
                    rw [HX.out] at hx'
                    rw [HY.out] at hy'
                    injection hx' with hx'
                    injection hy' with hy'
                    subst hx' hy'
                    exact h⟩
                  have hw1 : IntKind.i64.wrap ((j : Int) - (a : Int)) = (j : Int) - (a : Int) := IntWalk.i64_in _ (by omega)
                  have hw2 : IntKind.i64.wrap (t - x) = t - x := IntWalk.i64_in _ (by omega)
                  have hw4 : IntKind.i64.wrap (t - x + U) = t - x + U := IntWalk.i64_in _ (by omega)
                  obtain ⟨p, hp⟩ : ∃ p, ((j : Int) - (a : Int)) * T = p := ⟨_, rfl⟩
                  rw [hp] at hm HEE
                  have hw3 : IntKind.i64.wrap (((j : Int) - (a : Int)) * T) = p := by rw [hp]; exact IntWalk.i64_in _ (by omega)
                  have hw5 : wrap64 (((j : Int) - (a : Int)) * T) = p := by rw [hp]; exact IntWalk.wrap64_in _ (by omega)
                  clear hp
                  have han : a < n := by omega
                  by_cases hE : t - x + U < p
                  · have HKR : Hid (KeepsR T U l a j false) := Lib.hid (.inr ⟨rfl, a, j, rfl, rfl, by omega, HEE.out.1 hE, HNO.out, fun a' h1 h2 => HNO2.out a' (by omega) h2⟩)
                    go_wp2
                    go_quiet (fail)
                    go_wp2
                    (try simp only [Exit.noGoto_ret])
                    refine bodyPost_ret (results_tmp4 rfl _ _ _) rfl ?_
                    exact ⟨a, j, false, by rw [HZ.out]; rfl, by rw [if_pos HZ.out]; exact HKR.out, HK1.out.trans (HK2.out.drewN _) (fun _ _ h => h)⟩
                  · have HNO3 : Hid (∀ a', a ≤ a' → a' < j → ¬ Ey T U l a' j) := Lib.hid fun a' h1 h2 => by
                      by_cases e : a' = a
                      · subst e; exact fun q => hE (HEE.out.2 q)
                      · exact HNO2.out a' (by omega) h2
                    go_wp2
                    go_quiet (fail)
                    go_wp2
                    go_roundw
                    case rel => exact ⟨a, by omega, by go_num, HNO3.out, HK2.out.drewN _⟩
                    case measure => simp
            · have HNO2 : Hid (∀ a b, a < b → b < j + 1 → ¬ Ey T U l a b) := Lib.hid fun a b hab hb => by
                by_cases e : b = j
                · subst e; exact fun q => hea ((HEA.out hj0).2 ⟨a, hab, q⟩)
                · exact HNO.out a b hab (by omega)
              go_wp2
              go_roundw
              case rel => exact ⟨j + 1, max nx t + T, by omega, by go_num, by rw [HMX.out], HST.out, HNO2.out, HK.out⟩
              case measure => simp; omega
          · have HNO2 : Hid (∀ a b, a < b → b < j + 1 → ¬ Ey T U l a b) := Lib.hid fun a b hab hb => absurd hb (by omega)
            obtain rfl : j = 0 := by omega
            have c1' : wr.cell? ⟨b0, off, none⟩ = some (.int .i64 t) := by simpa using c1
            go_wp2
            go_roundw
            case rel => exact ⟨1, max nx t + T, by omega, by go_num, by rw [HMX.out], HST.out, HNO2.out, HK.out⟩
            case measure => simp; omega
        · have HKR : Hid (KeepsR T U l 0 0 true) := Lib.hid (.inl ⟨rfl, rfl, rfl, fun a b hab hE => HNO.out a b hab (by have := hE.lt; have := HN.out; omega) hE⟩)
          go_wp2
          (try simp only [Exit.noGoto_ret])
          refine bodyPost_ret (results_tmp4 rfl _ _ _) rfl ?_
          exact ⟨0, 0, true, by rw [HZ.out]; rfl, by rw [if_pos HZ.out]; exact HKR.out, HK1.out.trans HK.out (fun _ _ h => h)⟩
  · have HZ := Lib.hid hz
    obtain ⟨r, hr⟩ : ∃ r, bothE T U l = r := ⟨_, rfl⟩
    rw [hr] at hz
    have hb : (r != 0) = true := by simpa using hz
    have HRR := Lib.hid hr
    clear hz hr
    go_enter Try.func15, Try.ntmps15
    go_wp2
    go_step3
    go_wp2_with (go_at_call 34; fail)
    refine (HC.out _ HK0.out).mono ?_
    rintro e w1 ⟨rfl, K1⟩
    rw [HRR.out]
    go_wp2
    (try simp only [Exit.noGoto_ret])
    refine bodyPost_ret (results_tmp4 rfl _ _ _) rfl ?_
    exact ⟨0, 0, false, by rw [HRR.out]; rfl, by rw [if_neg HZ.out]; exact ⟨rfl, rfl, rfl⟩, HK0.out.trans K1 (fun _ _ h => h)⟩
end Go.Proofs.Ytelgknecainlfaa
