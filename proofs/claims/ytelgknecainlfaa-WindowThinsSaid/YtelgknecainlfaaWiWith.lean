/- WiWith: texts for the statements of this seat: contracts of functions, walks, plain laws. Conditions: none. -/
import Derived.Test.YtelgknecainlfaaWiMost3
set_option linter.all false
/- BinarySearch. -/
namespace Go.Proofs.Ytelgknecainlfaa
open Go.RowKit
open Wi (vld Srt chk longE)

def BinPost (l : List Int) (x : Int) (w : World) (e : Ending) (w' : World) : Prop := ∃ (p : Nat) (b : Bool), e = .returned (.tuple #[.int .i64 p, .bool b]) ∧ p ≤ l.length ∧ (∀ q y, q < p → l[q]? = some y → y < x) ∧ (∀ q y, p ≤ q → l[q]? = some y → x ≤ y) ∧ w = w'
set_option maxRecDepth 100000 in
set_option maxHeartbeats 4000000 in
theorem bins_c {w : World} {v : Value} {l : List Int} (h : Ints w v l) (hl : l.length ≤ 100000) (hs : Srt l) (x : Int) : Calls Try.prog 47 #[v, .int .i64 x] w (BinPost l x w) := by
  have HQ := Lib.hid h
  have HS := Lib.hid hs
  obtain ⟨aa, cap, rfl⟩ := h.len
  obtain ⟨n, hn⟩ : ∃ n : Nat, n = l.length := ⟨_, rfl⟩
  rw [← hn] at hl HQ ⊢
  have HN := Lib.hid hn
  clear h hn hs
  go_enter Try.func47, Try.ntmps47
  go_wp2
  go_loopw [7, 8] (fun iv' jv wr => ∃ (i j : Nat), i ≤ j ∧ j ≤ n ∧ iv' = .int .i64 i ∧ jv = .int .i64 j ∧ (∀ q y, q < i → l[q]? = some y → y < x) ∧ (∀ q y, j ≤ q → l[q]? = some y → x ≤ y) ∧ w = wr) (fun a b _ => match a, b with | .int _ x, .int _ y => (y - x).toNat | _, _ => 0)
  case atStart => exact ⟨0, n, Nat.zero_le _, Nat.le_refl _, rfl, rfl, fun q y h => absurd h (by omega), fun q y h1 h2 => by have := (List.getElem?_eq_some_iff.1 h2).1; have := HN.out; omega, rfl⟩
  case round =>
    obtain ⟨i, j, hij, hj, rfl, rfl, hlo, hhi, rfl⟩ := hrel
    have HLO := Lib.hid hlo
    have HHI := Lib.hid hhi
    clear hlo hhi
    by_cases hlt : i < j
    · obtain ⟨m, hm⟩ : ∃ m, (i + j) / 2 = m := ⟨_, rfl⟩
      have hm1 : i ≤ m ∧ m < j := by omega
      have hmI : ((i : Int) + j) / 2 = (m : Int) := by omega
      have hml : m < l.length := by have := HN.out; omega
      obtain ⟨b0, off, cap', hv, hb0, hcell⟩ := HQ.out.pos (by have := HN.out; omega)
      rw [← HN.out] at hv
      injection hv with e1 e2 e3
      subst e1 e3
      have c0 := IntsK.at hcell hml
      clear hcell
      have HY := Lib.hid (get_of hml)
      generalize l[m] = y at c0 HY
      have hmn : m < n := by omega
      clear hm
      by_cases hyx : y < x
      · have HB := Lib.hid (less_b true y x w (decide_eq_true hyx))
        have HLO2 : Hid (∀ q y, q < m + 1 → l[q]? = some y → y < x) := Lib.hid fun q z hq hz => by
          have := HS.out.mono (by omega : q ≤ m) hz HY.out; omega
        clear hyx
        go_wp2_with (go_at_call 61; refine HB.out.mono ?_; rintro e w' ⟨rfl, rfl⟩)
        go_roundw
        case rel => exact ⟨m + 1, j, by omega, hj, by go_num, rfl, HLO2.out, HHI.out, trivial⟩
        case measure => simp; omega
      · have HB := Lib.hid (less_b false y x w (decide_eq_false hyx))
        have HHI2 : Hid (∀ q y, m ≤ q → l[q]? = some y → x ≤ y) := Lib.hid fun q z hq hz => by
          have := HS.out.mono hq HY.out hz; omega
        clear hyx
        go_wp2_with (go_at_call 61; refine HB.out.mono ?_; rintro e w' ⟨rfl, rfl⟩)
        go_roundw
        case rel => exact ⟨i, m, by omega, by omega, rfl, rfl, HLO.out, HHI2.out, trivial⟩
        case measure => simp; omega
    · obtain rfl : i = j := by omega
      by_cases hin : i < n
      · have hil : i < l.length := by have := HN.out; omega
        obtain ⟨b0, off, cap', hv, hb0, hcell⟩ := HQ.out.pos (by have := HN.out; omega)
        rw [← HN.out] at hv
        injection hv with e1 e2 e3
        subst e1 e3
        have c0 := IntsK.at hcell hil
        clear hcell
        generalize l[i] = y at c0
        cases hyx : decide (y = x) with
        | true =>
          have hb : (y == x) = true := hyx
          go_wp2
          go_ret2
          exact ⟨i, true, rfl, by have := HN.out; omega, HLO.out, HHI.out, rfl⟩
        | false =>
          have hb : (y == x) = false := hyx
          have hne : ¬ y = x := of_decide_eq_false hyx
          go_wp2_with (go_at_call 62; refine (nan62_c _ _).mono ?_; rintro e w' ⟨rfl, rfl⟩)
          go_ret2
          exact ⟨i, false, rfl, by have := HN.out; omega, HLO.out, HHI.out, rfl⟩
      · go_wp2
        go_ret2
        exact ⟨i, false, rfl, by have := HN.out; omega, HLO.out, HHI.out, rfl⟩
/-- How many numbers lie between two. -/
def cntIn (a b : Int) (l : List Int) : Nat := l.countP fun x => decide (a ≤ x) && decide (x ≤ b)
theorem cntIn_snoc (a b : Int) {l : List Int} {j : Nat} (h : j < l.length) : cntIn a b (l.take (j + 1)) = cntIn a b (l.take j) + if (decide (a ≤ l[j]) && decide (l[j] ≤ b)) = true then 1 else 0 := by
  rw [List.take_add_one, List.getElem?_eq_getElem h]
  unfold cntIn
  rw [List.countP_append]
  simp [List.countP_cons]
/-- Of a sorted list: parted at two places. -/
theorem cntIn_part (a b : Int) (l : List Int) : ∀ (p r : Nat), p ≤ l.length → r ≤ l.length → (∀ q y, q < p → l[q]? = some y → y < a) → (∀ q y, p ≤ q → l[q]? = some y → a ≤ y) → (∀ q y, q < r → l[q]? = some y → y < b + 1) → (∀ q y, r ≤ q → l[q]? = some y → b + 1 ≤ y) → cntIn a b l = r - p := by
  induction l with
  | nil => intro p r hp hr _ _ _ _; simp at hp hr; subst hp hr; rfl
  | cons x t ih =>
    intro p r hp hr h1 h2 h3 h4
    simp only [List.length_cons] at hp hr
    have hc : cntIn a b (x :: t) = cntIn a b t + if (decide (a ≤ x) && decide (x ≤ b)) = true then 1 else 0 := by unfold cntIn; rw [List.countP_cons]
    have := ih (p - 1) (r - 1) (by omega) (by omega) (fun q y hq hy => h1 (q + 1) y (by omega) (by simpa using hy)) (fun q y hq hy => h2 (q + 1) y (by omega) (by simpa using hy)) (fun q y hq hy => h3 (q + 1) y (by omega) (by simpa using hy)) (fun q y hq hy => h4 (q + 1) y (by omega) (by simpa using hy))
    rw [hc, this]
    by_cases hp0 : p = 0
    · have ha := h2 0 x (by omega) rfl
      by_cases hr0 : r = 0
      · have hb := h4 0 x (by omega) rfl
        rw [if_neg (by simp; omega)]; omega
      · have hb := h3 0 x (by omega) rfl
        rw [if_pos (by simp; omega)]; omega
    · have ha := h1 0 x (by omega) rfl
      rw [if_neg (by simp; omega)]
      by_cases hr0 : r = 0
      · omega
      · omega
end Go.Proofs.Ytelgknecainlfaa
