/- WhCb: texts for the statements of this seat: contracts of functions, walks, plain laws. Conditions: none. -/
import Derived.Test.YtjlcchjcppkbjaaDoorProg
import Derived.WalkKit
import Derived.WalkSpells
import Derived.WalkLawsBesides
import Derived.Lib.Hide
import Derived.StillTailTactics
import Derived.Sort.Grow
import Derived.Lib.TrailingZeros
import Derived.Laws.Bits64b
import Derived.Test.YtjlcchjcppkbjaaDoorGeAll
import Derived.Test.YtjlcchjcppkbjaaDoorWhA
set_option linter.all false
/- Comparisons of numbers; cmp.Or of two; before. -/
namespace Go.Proofs.YtjlcchjcppkbjaaDoor
open Go.RowKit Go.Sort

def cmpI (x y : Int) : Int := if x < y then -1 else if y < x then 1 else 0
theorem cmpI_lt {x y : Int} : cmpI x y < 0 ↔ x < y := by
  unfold cmpI
  by_cases h1 : x < y
  · rw [if_pos h1]; omega
  · rw [if_neg h1]
    by_cases h2 : y < x
    · rw [if_pos h2]; omega
    · rw [if_neg h2]; omega
theorem cmpI_eq {x y : Int} : cmpI x y = 0 ↔ x = y := by
  unfold cmpI
  by_cases h1 : x < y
  · rw [if_pos h1]; omega
  · rw [if_neg h1]
    by_cases h2 : y < x
    · rw [if_pos h2]; omega
    · rw [if_neg h2]; omega
theorem cmp64_c (x y : Int) (w : World) : Calls Tryd.prog 66 #[.int .i64 x, .int .i64 y] w fun e w' => e = .returned (.int .i64 (cmpI x y)) ∧ w' = w := by
  have hn : ∀ z W, Calls Tryd.prog 85 #[.int .i64 z] W fun e w' => e = .returned (.bool false) ∧ w' = W := fun z W => by
    go_enter Tryd.func85, Tryd.ntmps85
    go_wp2
    go_ret
    exact ⟨rfl, rfl⟩
  unfold cmpI
  by_cases h1 : x < y
  · have h2 : ¬ y < x := by omega
    go_enter Tryd.func66, Tryd.ntmps66
    go_wp2_with (go_at_call 85; refine (hn _ _).mono ?_; rintro e w' ⟨rfl, rfl⟩)
    go_ret
    exact ⟨rfl, rfl⟩
  · by_cases h2 : y < x
    · go_enter Tryd.func66, Tryd.ntmps66
      go_wp2_with (go_at_call 85; refine (hn _ _).mono ?_; rintro e w' ⟨rfl, rfl⟩)
      go_ret
      exact ⟨rfl, rfl⟩
    · go_enter Tryd.func66, Tryd.ntmps66
      go_wp2_with (go_at_call 85; refine (hn _ _).mono ?_; rintro e w' ⟨rfl, rfl⟩)
      go_ret
      exact ⟨rfl, rfl⟩
theorem cmpInt_c (x y : Int) (w : World) : Calls Tryd.prog 67 #[.int .i64 x, .int .i64 y] w fun e w' => e = .returned (.int .i64 (cmpI x y)) ∧ w' = w := by
  have hn : ∀ z W, Calls Tryd.prog 86 #[.int .i64 z] W fun e w' => e = .returned (.bool false) ∧ w' = W := fun z W => by
    go_enter Tryd.func86, Tryd.ntmps86
    go_wp2
    go_ret
    exact ⟨rfl, rfl⟩
  unfold cmpI
  by_cases h1 : x < y
  · have h2 : ¬ y < x := by omega
    go_enter Tryd.func67, Tryd.ntmps67
    go_wp2_with (go_at_call 86; refine (hn _ _).mono ?_; rintro e w' ⟨rfl, rfl⟩)
    go_ret
    exact ⟨rfl, rfl⟩
  · by_cases h2 : y < x
    · go_enter Tryd.func67, Tryd.ntmps67
      go_wp2_with (go_at_call 86; refine (hn _ _).mono ?_; rintro e w' ⟨rfl, rfl⟩)
      go_ret
      exact ⟨rfl, rfl⟩
    · go_enter Tryd.func67, Tryd.ntmps67
      go_wp2_with (go_at_call 86; refine (hn _ _).mono ?_; rintro e w' ⟨rfl, rfl⟩)
      go_ret
      exact ⟨rfl, rfl⟩
def or2 (p q : Int) : Int := if p = 0 then q else p
theorem or_c (b : Nat) (p q : Int) (w : World) (h0 : w.cell? ⟨b, 0, none⟩ = some (.int .i64 p)) (h1 : w.cell? ⟨b, 1, none⟩ = some (.int .i64 q)) :
    Calls Tryd.prog 65 #[.slice (some ⟨b, 0, none⟩) 2 2] w fun e w' => e = .returned (.int .i64 (or2 p q)) ∧ w' = w := by
  unfold or2
  by_cases hp : p = 0
  · subst hp
    by_cases hq : q = 0
    · subst hq
      go_enter Tryd.func65, Tryd.ntmps65
      go_wp2
      refine wp_loop_rounds 3 ?_
      rw [rounds_succ]
      go_wp2
      rw [rounds_succ]
      go_wp2
      rw [rounds_succ]
      go_wp2
      go_ret
      exact ⟨rfl, rfl⟩
    · have hb : (q == 0) = false := by simpa using hq
      have hb2 : (q != 0) = true := by simpa using hq
      clear hq
      go_enter Tryd.func65, Tryd.ntmps65
      go_wp2
      refine wp_loop_rounds 2 ?_
      rw [rounds_succ]
      go_wp2
      rw [rounds_succ]
      go_wp2
      go_ret
      exact ⟨rfl, rfl⟩
  · have hb : (p == 0) = false := by simpa using hp
    have hb2 : (p != 0) = true := by simpa using hp
    rw [if_neg hp]
    clear hp
    go_enter Tryd.func65, Tryd.ntmps65
    go_wp2
    refine wp_loop_rounds 1 ?_
    rw [rounds_succ]
    go_wp2
    go_ret
    exact ⟨rfl, rfl⟩
/-- The order of two timers. -/
def cmpT (x y : Tm) : Int := or2 (cmpI x.at_ y.at_) (cmpI x.seq y.seq)
theorem cmpT_lt (x y : Tm) : cmpT x y < 0 ↔ x.lt y := by
  unfold cmpT or2 Tm.lt
  have h1 := @cmpI_lt x.at_ y.at_
  have h2 := @cmpI_lt x.seq y.seq
  have h3 := @cmpI_eq x.at_ y.at_
  by_cases h : cmpI x.at_ y.at_ = 0
  · rw [if_pos h, h2]
    have := h3.1 h
    omega
  · rw [if_neg h, h1]
    have : x.at_ ≠ y.at_ := fun e => h (h3.2 e)
    omega
set_option maxRecDepth 100000 in
set_option maxHeartbeats 1000000 in
theorem before_c (bx qy : Nat) (x y : Tm) (w : World) (h0 : w.cell? ⟨bx, 0, none⟩ = some (.int .i64 x.at_)) (h1 : w.cell? ⟨qy, 0, none⟩ = some (.int .i64 y.at_)) (h2 : w.cell? ⟨bx, 3, none⟩ = some (.int .i64 x.seq)) (h3 : w.cell? ⟨qy, 3, none⟩ = some (.int .i64 y.seq)) :
    Calls Tryd.prog 46 #[.pointer (some ⟨bx, 0, none⟩), .pointer (some ⟨qy, 0, none⟩)] w fun e w' => e = .returned (.int .i64 (cmpT x y)) ∧ ∃ q os', w' = grow (w.drewN q) os' := by
  have FIN : Hid (∀ (W : World), W = w.drew → ∀ t, (∃ q os', (W.alloc (.cells #[.int .i64 (cmpI x.at_ y.at_), .int .i64 (cmpI x.seq y.seq)] t)) = grow (w.drewN q) os')) := Lib.hid fun W hW t => by
    subst hW
    exact ⟨1, #[.cells #[.int .i64 (cmpI x.at_ y.at_), .int .i64 (cmpI x.seq y.seq)] t], rfl⟩
  have HA : Hid (∀ W, Calls Tryd.prog 66 #[.int .i64 x.at_, .int .i64 y.at_] W fun e w' => e = .returned (.int .i64 (cmpI x.at_ y.at_)) ∧ w' = W) := Lib.hid fun W => cmp64_c _ _ W
  have HB : Hid (∀ W, Calls Tryd.prog 67 #[.int .i64 x.seq, .int .i64 y.seq] W fun e w' => e = .returned (.int .i64 (cmpI x.seq y.seq)) ∧ w' = W) := Lib.hid fun W => cmpInt_c _ _ W
  have HO : Hid (∀ (W : World) t, Calls Tryd.prog 65 #[.slice (some ⟨W.heap.size, 0, none⟩) 2 2] (W.alloc (.cells #[.int .i64 (cmpI x.at_ y.at_), .int .i64 (cmpI x.seq y.seq)] t)) fun e w' => e = .returned (.int .i64 (cmpT x y)) ∧ w' = W.alloc (.cells #[.int .i64 (cmpI x.at_ y.at_), .int .i64 (cmpI x.seq y.seq)] t)) :=
    Lib.hid fun W t => or_c _ _ _ _ (by rw [World.cell?_alloc_at _ _ _ _ rfl]; rfl) (by rw [World.cell?_alloc_at _ _ _ _ rfl]; rfl)
  generalize cmpI x.at_ y.at_ = p at HA HO FIN
  generalize cmpI x.seq y.seq = q at HB HO FIN
  generalize cmpT x y = r at HO
  go_enter Tryd.func46, Tryd.ntmps46
  go_wp2
  refine wp_region_still_tail 18 (by kernel_rfl) (by kernel_rfl) ?_
  simp only [List.take_succ_cons, List.take_zero, List.drop_succ_cons, List.drop_zero]
  change wpStill _ _ (World.drew _) (fun a' => wpList _ _ _ _ a' (World.drew _)) _ _
  have k0 : w.drew.cell? ⟨bx, 0, none⟩ = some (.int .i64 x.at_) := h0
  have k1 : w.drew.cell? ⟨qy, 0, none⟩ = some (.int .i64 y.at_) := h1
  have k2 : w.drew.cell? ⟨bx, 3, none⟩ = some (.int .i64 x.seq) := h2
  have k3 : w.drew.cell? ⟨qy, 3, none⟩ = some (.int .i64 y.seq) := h3
  have HW := Lib.hid (FIN.out w.drew rfl)
  clear h0 h1 h2 h3 FIN
  generalize w.drew = W at k0 k1 k2 k3 HW ⊢
  iterate 8 still_step
  still_call (HA.out W)
  iterate 8 still_step
  still_call (HB.out W)
  refine wpStill_nil ?_
  go_wp2_with (go_at_call 65; refine (HO.out _ _).mono ?_; rintro e w' ⟨rfl, rfl⟩)
  go_ret
  exact ⟨rfl, HW.out _⟩
end Go.Proofs.YtjlcchjcppkbjaaDoor
/- Words as sets of small numbers: the first number of a set, one more, one less. Plain. -/
namespace Go.Proofs.YtjlcchjcppkbjaaDoor

theorem cut_bit (u f j : Nat) : (u / 2 ^ f * 2 ^ f).testBit j = (decide (f ≤ j) && u.testBit j) := by
  rw [Nat.mul_comm, Nat.testBit_two_pow_mul, Nat.testBit_div_two_pow]
  by_cases h : f ≤ j
  · simp only [h, decide_true, Bool.true_and, ge_iff_le]
    congr 1; omega
  · simp [h]
theorem cut_none {u f : Nat} (hu : u < 2 ^ 64) (h : ∀ j, f ≤ j → j < 64 → u.testBit j = false) : u / 2 ^ f * 2 ^ f = 0 := by
  apply Nat.eq_of_testBit_eq
  intro j
  rw [cut_bit, Nat.zero_testBit]
  by_cases h1 : f ≤ j
  · by_cases h2 : j < 64
    · simp [h j h1 h2]
    · have : u < 2 ^ j := Nat.lt_of_lt_of_le hu (Nat.pow_le_pow_right (by decide) (by omega))
      simp [Nat.testBit_lt_two_pow this]
  · simp [h1]
theorem cut_some {u f r : Nat} (hu : u < 2 ^ 64) (hf : f ≤ r) (hr : u.testBit r = true) (hm : ∀ j, f ≤ j → j < r → u.testBit j = false) :
    u / 2 ^ f * 2 ^ f ≠ 0 ∧ u / 2 ^ f * 2 ^ f < 2 ^ 64 ∧ Lib.ctz 64 (u / 2 ^ f * 2 ^ f) = r := by
  have h0 : u / 2 ^ f * 2 ^ f ≠ 0 := fun e => by
    have := cut_bit u f r
    rw [e, Nat.zero_testBit, hr] at this
    simp [hf] at this
  have h1 : u / 2 ^ f * 2 ^ f < 2 ^ 64 := Nat.lt_of_le_of_lt (Nat.div_mul_le_self u _) hu
  refine ⟨h0, h1, ?_⟩
  unfold Lib.ctz
  rw [if_neg h0]
  obtain ⟨m, hm1, hm2⟩ := Lib.ctzFrom_spec 64 _ (Nat.pos_of_ne_zero h0) h1
  generalize Lib.ctzFrom 64 (u / 2 ^ f * 2 ^ f) = c at hm1 hm2
  have hb : ∀ j, (u / 2 ^ f * 2 ^ f).testBit j = (decide (c ≤ j) && (2 * m + 1).testBit (j - c)) := fun j => by
    rw [hm1, Nat.testBit_two_pow_mul]
  have hcc : (u / 2 ^ f * 2 ^ f).testBit c = true := by rw [hb, Nat.sub_self, Nat.testBit_zero]; simp
  have hc2 := hcc
  rw [cut_bit] at hc2
  simp only [Bool.and_eq_true, decide_eq_true_eq] at hc2
  have h2 : c ≤ r := by
    have := hb r
    rw [cut_bit, hr] at this
    simp only [hf, decide_true, Bool.true_and] at this
    have := this.symm
    simp only [Bool.and_eq_true, decide_eq_true_eq] at this
    exact this.1
  rcases Nat.lt_or_ge c r with q | q
  · have := hm c hc2.1 q
    rw [hc2.2] at this
    simp at this
  · omega
/-- One more. -/
theorem or_bit (u s j : Nat) : (u ||| 2 ^ s).testBit j = (u.testBit j || decide (s = j)) := by
  rw [Nat.testBit_or, Nat.testBit_two_pow]
theorem or_lt {u s : Nat} (hu : u < 2 ^ 64) (hs : s < 64) : u ||| 2 ^ s < 2 ^ 64 := Nat.or_lt_two_pow hu (Nat.pow_lt_pow_right (by decide) hs)
/-- One less. -/
def strike (u s : Nat) : Nat := u &&& (2 ^ 64 - 1 - 2 ^ s)
theorem strike_lt {u s : Nat} (hu : u < 2 ^ 64) : strike u s < 2 ^ 64 := Nat.lt_of_le_of_lt Nat.and_le_left hu
theorem strike_bit (u s j : Nat) (hs : s < 64) (hu : u < 2 ^ 64) : (strike u s).testBit j = (u.testBit j && decide (s ≠ j)) := by
  unfold strike
  rw [Nat.testBit_and]
  by_cases hj : j < 64
  · have e : 2 ^ 64 - 1 - 2 ^ s = 2 ^ 64 - (2 ^ s + 1) := by omega
    rw [e, Nat.testBit_two_pow_sub_succ (Nat.pow_lt_pow_right (by decide) hs), Nat.testBit_two_pow]
    simp [hj]
  · have : u < 2 ^ j := Nat.lt_of_lt_of_le hu (Nat.pow_le_pow_right (by decide) (by omega))
    simp [Nat.testBit_lt_two_pow this]
theorem bits_andNot_u64_nat (a s : Nat) (ha : a < 18446744073709551616) (hs : s < 64) : bits .andNot .u64 (a : Int) ((2 ^ s : Nat) : Int) = ((strike a s : Nat) : Int) := by
  have hp : 2 ^ s < 18446744073709551616 := Nat.pow_lt_pow_right (m := s) (n := 64) (by decide) hs
  have h1 : (BitVec.ofInt 64 (a : Int)).toNat = a := by
    rw [BitVec.ofInt_natCast, BitVec.toNat_ofNat]; exact Nat.mod_eq_of_lt (by omega)
  have h2 : (BitVec.ofInt 64 ((2 ^ s : Nat) : Int)).toNat = 2 ^ s := by
    rw [BitVec.ofInt_natCast, BitVec.toNat_ofNat]; exact Nat.mod_eq_of_lt hp
  show IntKind.u64.wrap ((BitVec.ofInt 64 (a : Int) &&& ~~~ BitVec.ofInt 64 ((2 ^ s : Nat) : Int)).toNat : Int) = _
  rw [BitVec.toNat_and, BitVec.toNat_not, h1, h2, IntKind.wrap_u64]
  have h3 : a &&& (2 ^ 64 - 1 - 2 ^ s) < 2 ^ 64 := strike_lt (by omega)
  unfold strike
  omega
end Go.Proofs.YtjlcchjcppkbjaaDoor
