/- WiW2: texts for the statements of this seat: contracts of functions, walks, plain laws. Conditions: none. -/
import Derived.Test.YtelgknecainlfaaWiW1
set_option linter.all false
/- Contracts of times, Check (both packages), long, Or. -/
namespace Go.Proofs.Ytelgknecainlfaa
open Go.RowKit
open Wi (vld Srt chk)

/-- Lists in a block. -/
structure LL (w : World) (D : Nat) (ls : List (List Int)) : Prop where
  lt : D < w.heap.size
  at_ : ∀ j s, ls[j]? = some s → s.length ≤ 4611686018427387904 ∧ ∃ a c, w.cell? ⟨D, j, none⟩ = some (.slice a s.length c) ∧ Ints w (.slice a s.length c) s
theorem LL.one {w : World} {v : Value} {l : List Int} (t : Nat) (h : Ints w v l) (hl : l.length ≤ 4611686018427387904) : LL (w.alloc (.cells #[v] t)) w.heap.size [l] := by
  refine ⟨by simp, fun j s hs => ?_⟩
  obtain ⟨a, c, rfl⟩ := h.len
  match j with
  | 0 => simp at hs; subst hs; exact ⟨hl, a, c, by rw [World.cell?_alloc_at _ _ _ _ rfl]; rfl, h.same ((Kept.refl _ _).alloc _)⟩
  | j + 1 => simp at hs
theorem LL.two {w : World} {v u : Value} {l m : List Int} (t : Nat) (h : Ints w v l) (hl : l.length ≤ 4611686018427387904) (g : Ints w u m) (gl : m.length ≤ 4611686018427387904) : LL (w.alloc (.cells #[v, u] t)) w.heap.size [l, m] := by
  refine ⟨by simp, fun j s hs => ?_⟩
  obtain ⟨a, c, rfl⟩ := h.len
  obtain ⟨b, d, rfl⟩ := g.len
  match j with
  | 0 => simp at hs; subst hs; exact ⟨hl, a, c, by rw [World.cell?_alloc_at _ _ _ _ rfl]; rfl, h.same ((Kept.refl _ _).alloc _)⟩
  | 1 => simp at hs; subst hs; exact ⟨gl, b, d, by rw [World.cell?_alloc_at _ _ _ _ rfl]; rfl, g.same ((Kept.refl _ _).alloc _)⟩
  | j + 2 => simp at hs
def timesE (ls : List (List Int)) : Int := if (ls.all fun l => l.all vld) = true then 0 else 14
theorem timesE_bad {ls : List (List Int)} {j k : Nat} {s : List Int} {x : Int} (h : ls[j]? = some s) (hx : s[k]? = some x) (hv : vld x = false) : timesE ls = 14 := by
  unfold timesE
  rw [if_neg]
  intro q
  have := List.all_eq_true.1 (List.all_eq_true.1 q s (List.mem_of_getElem? h)) x (List.mem_of_getElem? hx)
  rw [hv] at this; cases this
set_option maxHeartbeats 1000000 in
theorem times_c {w : World} {D m c : Nat} {ls : List (List Int)} (h : LL w D ls) (hm : ls.length = m) (hm2 : m ≤ 1000) : Calls Try.prog 48 #[.slice (some ⟨D, 0, none⟩) m c] w fun e w' => e = .returned (.int .i64 (timesE ls)) ∧ w = w' := by
  have HQ := Lib.hid h
  have HM := Lib.hid hm
  clear h hm
  go_enter Try.func48, Try.ntmps48
  go_wp2
  go_loopw [9] (fun i wr => ∃ j : Nat, j ≤ m ∧ i = .int .i64 j ∧ (∀ k s, k < j → ls[k]? = some s → s.all vld = true) ∧ w = wr) (fun i _ => match i with | .int _ x => (m - x).toNat | _ => 0)
  case atStart => exact ⟨0, Nat.zero_le _, rfl, fun k s hk _ => absurd hk (by omega), rfl⟩
  case round =>
    obtain ⟨j, hj, rfl, hb, rfl⟩ := hrel
    have HB := Lib.hid hb
    clear hb
    by_cases hlt : j < m
    · have hjl : j < ls.length := by have := HM.out; omega
      obtain ⟨hl63, a, c', hc, hi⟩ := HQ.out.at_ j ls[j] (List.getElem?_eq_getElem hjl)
      have HJ : Hid (ls[j]? = some ls[j]) := Lib.hid (List.getElem?_eq_getElem hjl)
      have HI := Lib.hid hi
      clear hi
      generalize ls[j] = s at hl63 hc HI HJ
      obtain ⟨n, hn⟩ : ∃ n : Nat, n = s.length := ⟨_, rfl⟩
      rw [← hn] at hl63 hc
      have HN := Lib.hid hn
      rw [← hn] at HI
      clear hn
      go_wp2
      go_loopw [15] (fun i wr => ∃ k : Nat, k ≤ n ∧ i = .int .i64 k ∧ (∀ q x, q < k → s[q]? = some x → vld x = true) ∧ w = wr) (fun i _ => match i with | .int _ x => (n - x).toNat | _ => 0)
      case atStart => exact ⟨0, Nat.zero_le _, rfl, fun k s hk _ => absurd hk (by omega), rfl⟩
      case round =>
        obtain ⟨k, hk, rfl, hb2, rfl⟩ := hrel
        have HB2 := Lib.hid hb2
        clear hb2
        by_cases hlt2 : k < n
        · have hks : k < s.length := by have := HN.out; omega
          obtain ⟨b0, off, cap', hv, hb0, hcell⟩ := HI.out.pos (by omega)
          rw [← HN.out] at hv
          injection hv with e1 e2 e3
          subst e1 e3
          have c0 := IntsK.at hcell hks
          have HX : Hid (s[k]? = some s[k]) := Lib.hid (List.getElem?_eq_getElem hks)
          clear hcell
          generalize s[k] = x at c0 HX
          cases hv : vld x with
          | true =>
            have HB3 : Hid (∀ q y, q < k + 1 → s[q]? = some y → vld y = true) := Lib.hid fun q y hq hy => by
              by_cases e : q = k
              · subst e; rw [HX.out] at hy; injection hy with hy; rw [← hy]; exact hv
              · exact HB2.out q y (by omega) hy
            have HV := Lib.hid hv
            clear hv
            go_wp2_with (go_at_call 45; refine (valid_b true _ _ HV.out).mono ?_; rintro e w' ⟨rfl, rfl⟩)
            go_roundw
            case rel => exact ⟨k + 1, by omega, by go_num, HB3.out, trivial⟩
            case measure => simp; omega
          | false =>
            have HE : Hid (timesE ls = 14) := Lib.hid (timesE_bad HJ.out HX.out hv)
            have HV := Lib.hid hv
            clear hv
            go_wp2_with (go_at_call 45; refine (valid_b false _ _ HV.out).mono ?_; rintro e w' ⟨rfl, rfl⟩)
            go_ret
            exact ⟨by rw [HE.out]; rfl, rfl⟩
        · have HB3 : Hid (∀ k s, k < j + 1 → ls[k]? = some s → s.all vld = true) := Lib.hid fun q t hq ht => by
            by_cases e : q = j
            · subst e
              rw [HJ.out] at ht
              injection ht with ht
              subst ht
              refine List.all_eq_true.2 fun x hx => ?_
              obtain ⟨i, hi⟩ := List.getElem?_of_mem hx
              exact HB2.out i x (by have := (List.getElem?_eq_some_iff.1 hi).1; have := HN.out; omega) hi
            · exact HB.out q t (by omega) ht
          go_wp2
          go_roundw
          case rel => exact ⟨j + 1, by omega, by go_num, HB3.out, trivial⟩
          case measure => simp; omega
    · have HE : Hid (timesE ls = 0) := Lib.hid (by
        unfold timesE
        rw [if_pos]
        refine List.all_eq_true.2 fun s hs => ?_
        obtain ⟨i, hi⟩ := List.getElem?_of_mem hs
        exact HB.out i s (by have := (List.getElem?_eq_some_iff.1 hi).1; have := HM.out; omega) hi)
      go_wp2
      go_ret
      exact ⟨by rw [HE.out]; rfl, rfl⟩
def ChkPost (l : List Int) (w : World) (e : Ending) (w' : World) : Prop := e = .returned (.int .i64 (chk l)) ∧ Kept (fun _ => False) w w'
open Classical in
theorem check_c {w : World} {v : Value} {l : List Int} (h : Ints w v l) (hl : l.length ≤ 4611686018427387904) : Calls Try.prog 31 #[v] w (ChkPost l w) := by
  have HQ := Lib.hid h
  have HT := Lib.hid (fun t c => times_c (c := c) (LL.one t h hl) rfl (by simp))
  have HS := Lib.hid (fun W K => sorted_c (w := W) (h.same K) hl)
  obtain ⟨a, cap, rfl⟩ := h.len
  by_cases h1 : 100000 < l.length
  · have HE := Lib.hid (Wi.chk_many h1)
    generalize l.length = n at hl h1 ⊢
    have h1' : (100000 : Int) < (n : Int) := by omega
    clear HQ HT HS h
    go_enter Try.func31, Try.ntmps31
    go_wp2
    go_ret
    exact ⟨by rw [HE.out]; rfl, Kept.refl _ _⟩
  · have hT0 : timesE [l] = if l.all vld = true then 0 else 14 := by unfold timesE; simp
    have HK := Lib.hid (fun t => (Kept.refl (fun _ => False) w).alloc (.cells #[.slice a l.length cap] t))
    generalize hn : l.length = n at hl h1 HT HS HK HQ ⊢
    have h1' : ¬ (100000 : Int) < (n : Int) := by omega
    cases h2 : l.all vld with
    | false =>
      have HE := Lib.hid (Wi.chk_time (by omega) h2)
      rw [h2] at hT0
      rw [hT0, if_neg (by decide)] at HT
      clear h hT0 h2 hn
      go_enter Try.func31, Try.ntmps31
      go_wp2_with (go_at_call 48; refine (HT.out _ _).mono ?_; rintro e w1 ⟨rfl, rfl⟩)
      go_ret
      exact ⟨by rw [HE.out]; rfl, HK.out _⟩
    | true =>
      rw [h2] at hT0
      rw [hT0, if_pos rfl] at HT
      have HE : Hid (chk l = if Srt l then 0 else 8) := Lib.hid (by
        by_cases h3 : Srt l
        · rw [Wi.chk_ok (by omega) h2 h3, if_pos h3]
        · rw [Wi.chk_order (by omega) h2 h3, if_neg h3])
      have HS2 := Lib.hid (fun t => HS.out _ (HK.out t))
      by_cases h3 : Srt l
      · rw [if_pos h3] at HE
        rw [decide_eq_true h3] at HS2
        clear h hT0 h2 hn h3 HS
        go_enter Try.func31, Try.ntmps31
        go_wp2_with (first | (go_at_call 48; refine (HT.out _ _).mono ?_; rintro e w1 ⟨rfl, rfl⟩) | (go_at_call 49; refine (HS2.out _).mono ?_; rintro e w2 ⟨rfl, K⟩))
        go_ret
        exact ⟨by rw [HE.out]; rfl, (HK.out _).trans K (fun _ _ h => h)⟩
      · rw [if_neg h3] at HE
        rw [decide_eq_false h3] at HS2
        clear h hT0 h2 hn h3 HS
        go_enter Try.func31, Try.ntmps31
        go_wp2_with (first | (go_at_call 48; refine (HT.out _ _).mono ?_; rintro e w1 ⟨rfl, rfl⟩) | (go_at_call 49; refine (HS2.out _).mono ?_; rintro e w2 ⟨rfl, K⟩))
        go_ret
        exact ⟨by rw [HE.out]; rfl, (HK.out _).trans K (fun _ _ h => h)⟩
theorem long_c (n : Int) (w : World) : Calls Try.prog 38 #[.int .i64 n] w fun e w' => e = .returned (.int .i64 (Wi.longE n)) ∧ w = w' := by
  by_cases h1 : n < 0
  · have HE : Hid (Wi.longE n = 2) := Lib.hid (by simp [Wi.longE, h1])
    go_enter Try.func38, Try.ntmps38
    go_wp2
    go_ret
    exact ⟨by rw [HE.out]; rfl, rfl⟩
  · by_cases h2 : 68719476736 < n
    · have HE : Hid (Wi.longE n = 2) := Lib.hid (by simp [Wi.longE, h2])
      go_enter Try.func38, Try.ntmps38
      go_wp2
      go_ret
      exact ⟨by rw [HE.out]; rfl, rfl⟩
    · have HE : Hid (Wi.longE n = 0) := Lib.hid (by simp [Wi.longE, h1, h2])
      go_enter Try.func38, Try.ntmps38
      go_wp2
      go_ret
      exact ⟨by rw [HE.out]; rfl, rfl⟩
/-- The first of two numbers that is not 0. -/
def or2 (x y : Int) : Int := if x ≠ 0 then x else y
theorem or_c {w : World} {D c : Nat} (x y : Int) (h0 : w.cell? ⟨D, 0, none⟩ = some (.int .i64 x)) (h1 : w.cell? ⟨D, 1, none⟩ = some (.int .i64 y)) : Calls Try.prog 40 #[.slice (some ⟨D, 0, none⟩) 2 c] w fun e w' => e = .returned (.int .i64 (or2 x y)) ∧ w = w' := by
  have hcell : ∀ j : Nat, j < 2 → w.cell? ⟨D, j, none⟩ = some (.int .i64 (if j = 0 then x else y)) := fun j hj => by
    match j with
    | 0 => exact h0
    | 1 => exact h1
  have HC := Lib.hid hcell
  clear hcell h0 h1
  go_enter Try.func40, Try.ntmps40
  go_wp2
  go_loopw [8] (fun i wr => ∃ j : Nat, j ≤ 2 ∧ i = .int .i64 j ∧ (0 < j → x = 0) ∧ (1 < j → y = 0) ∧ w = wr) (fun i _ => match i with | .int _ x => (2 - x).toNat | _ => 0)
  case atStart => exact ⟨0, Nat.zero_le _, rfl, fun h => absurd h (by omega), fun h => absurd h (by omega), rfl⟩
  case round =>
    obtain ⟨j, hj, rfl, hx, hy, rfl⟩ := hrel
    have HX := Lib.hid hx
    have HY := Lib.hid hy
    clear hx hy
    by_cases hlt : j < 2
    · have c0 := HC.out j hlt
      obtain ⟨z, hz⟩ : ∃ z, (if j = 0 then x else y) = z := ⟨_, rfl⟩
      rw [hz] at c0
      have HZ := Lib.hid hz
      clear hz
      by_cases h : z = 0
      · have HR : Hid ((0 < j + 1 → x = 0) ∧ (1 < j + 1 → y = 0)) := Lib.hid (by
          have := HZ.out
          match j with
          | 0 => simp at this; exact ⟨fun _ => by omega, fun h => absurd h (by omega)⟩
          | 1 => simp at this; exact ⟨fun _ => HX.out (by omega), fun _ => by omega⟩)
        go_wp2
        go_roundw
        case rel => exact ⟨j + 1, by omega, by go_num, HR.out.1, HR.out.2, trivial⟩
        case measure => simp; omega
      · have HR : Hid (or2 x y = z) := Lib.hid (by
          have := HZ.out
          unfold or2
          match j with
          | 0 => simp at this; rw [if_pos (by omega)]; exact this
          | 1 => simp at this; rw [if_neg (by simp [HX.out (by omega)])]; exact this)
        have hb : (z != 0) = true := by simpa using h
        go_wp2
        go_ret
        exact ⟨by rw [HR.out]; rfl, rfl⟩
    · have HR : Hid (or2 x y = 0) := Lib.hid (by unfold or2; rw [HX.out (by omega), HY.out (by omega)]; rfl)
      go_wp2
      go_ret
      exact ⟨by rw [HR.out]; rfl, rfl⟩
end Go.Proofs.Ytelgknecainlfaa
