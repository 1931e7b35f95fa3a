/- In, and has. (printed by gen_in.py) -/
import Derived.Test.YtaedijppbghnaaaBkUn
namespace Go.Proofs.Ytaedijppbghnaaa
open Go.RowKit Go.Shelf
open Bk (Sp chk vld has)

def IdxP (b : Bool) (w : World) (e : Ending) (w' : World) : Prop := ∃ r : Int, e = .returned (.int .i64 r) ∧ decide (r ≥ 0) = b ∧ Kept (fun _ => False) w w'
theorem clo48_c (b : Nat) (t x0 x1 : Int) (w : World) (ht : w.cell? ⟨b, 0, none⟩ = some (.int .i64 t)) : Calls Try.prog 48 #[.agg #[.int .i64 x0, .int .i64 x1], .pointer (some ⟨b, 0, none⟩)] w fun e w' => e = .returned (.bool (inS t (x0, x1))) ∧ Kept (fun _ => False) w w' := by
  have hb := World.block_lt_of_cell? _ _ ht
  have H : inS t (x0, x1) = (decide (x0 ≤ t) && decide (t ≤ x1)) := rfl
  generalize inS t (x0, x1) = r at H ⊢
  replace H := Lib.hid H
  by_cases h1 : x0 ≤ t
  · by_cases h2 : t ≤ x1
    all_goals
      have H2 : Hid (r = decide (t ≤ x1)) := Lib.hid (by rw [H.out]; simp [h1])
      have H3 : Hid (r = _) := Lib.hid (H2.out.trans (by first | exact decide_eq_true h2 | exact decide_eq_false h2))
      simp only at hb
      go_enter Try.func48, Try.ntmps48
      go_wp2
      go_ret
      exact ⟨by rw [H3.out]; rfl, (Kept.refl _ _).alloc _⟩
  · have H2 : Hid (r = false) := Lib.hid (by rw [H.out]; simp [h1])
    simp only at hb
    go_enter Try.func48, Try.ntmps48
    go_wp2
    go_ret
    exact ⟨by rw [H2.out]; rfl, (Kept.refl _ _).alloc _⟩
set_option maxHeartbeats 1000000 in
theorem index48_c {w : World} {v : Value} {l : List Sp} (h : Prs w v l) (h63 : (l.length : Int) ≤ 9223372036854775807) (b : Nat) (t : Int) (ht : w.cell? ⟨b, 0, none⟩ = some (.int .i64 t)) :
    Calls Try.prog 56 #[v, .func (.func 48) #[] #[.pointer (some ⟨b, 0, none⟩)]] w (IdxP (has l t) w) := by
  have HQ := Lib.hid h
  have HT := Lib.hid ht
  obtain ⟨a, cap, rfl⟩ := h.len
  obtain ⟨n, hn⟩ : ∃ n : Nat, n = l.length := ⟨_, rfl⟩
  rw [← hn] at h63 ⊢
  have HN := Lib.hid hn
  clear h ht hn
  go_enter Try.func56, Try.ntmps56
  go_wp2
  go_loopw [8] (fun i wr => ∃ j : Nat, j ≤ n ∧ i = .int .i64 j ∧ has l t = has (l.drop j) t ∧ Kept (fun _ => False) w wr) (fun i _ => match i with | .int _ x => (n - x).toNat | _ => 0)
  case atStart => exact ⟨0, Nat.zero_le _, rfl, rfl, Kept.refl _ _⟩
  case round =>
    obtain ⟨j, hj, rfl, hc, K⟩ := hrel
    have HC := Lib.hid hc
    have HK := Lib.hid K
    clear hc K
    by_cases hlt : j < n
    · have hjl : j < l.length := by have := HN.out; omega
      obtain ⟨b0, off, cap', hv, hb, hcell⟩ := (HQ.out.same HK.out).pos (by omega)
      injection hv with e1 e2 e3
      subst e1 e3
      have c0 := (Prs.at hcell hjl).1
      have c1 := (Prs.at hcell hjl).2
      have hstep : has (l.drop j) t = (inS t l[j] || has (l.drop (j + 1)) t) := by rw [List.drop_eq_getElem_cons hjl, Bk.has_cons]; rfl
      have HS := Lib.hid hstep
      have HCL := Lib.hid (clo48_c b t l[j].1 l[j].2 wr ((HK.out.cell (a := ⟨b, 0, none⟩) (World.block_lt_of_cell? _ _ HT.out) (fun h => h)).trans HT.out))
      clear hcell hstep
      generalize l[j] = x at c0 c1 HS HCL
      obtain ⟨x0, x1⟩ := x
      simp only at c0 c1 HCL
      cases hs : inS t (x0, x1) with
      | true =>
        rw [hs] at HS HCL
        clear hs
        go_wp2_with fail
        refine HCL.out.mono ?_
        rintro e w2 ⟨rfl, K2⟩
        go_wp2
        go_ret
        exact ⟨j, rfl, by rw [HC.out, HS.out]; simp, HK.out.trans K2 (fun _ _ h => h)⟩
      | false =>
        rw [hs] at HS HCL
        clear hs
        go_wp2_with fail
        refine HCL.out.mono ?_
        rintro e w2 ⟨rfl, K2⟩
        go_wp2
        go_roundw
        case rel => exact ⟨j + 1, by omega, by go_num, by rw [HC.out, HS.out, Bool.false_or], HK.out.trans K2 (fun _ _ h => h)⟩
        case measure => simp; omega
    · obtain rfl : n = j := by omega
      have HR : Hid (has l t = false) := Lib.hid (by rw [HC.out, List.drop_eq_nil_of_le (by have := HN.out; omega)]; rfl)
      go_wp2
      go_ret
      exact ⟨-1, rfl, by rw [HR.out]; rfl, HK.out⟩
theorem contains48_c {w : World} {v : Value} {l : List Sp} (h : Prs w v l) (h63 : (l.length : Int) ≤ 9223372036854775807) (b : Nat) (t : Int) (ht : w.cell? ⟨b, 0, none⟩ = some (.int .i64 t)) :
    Calls Try.prog 46 #[v, .func (.func 48) #[] #[.pointer (some ⟨b, 0, none⟩)]] w fun e w' => e = .returned (.bool (has l t)) ∧ Kept (fun _ => False) w w' := by
  have HC := Lib.hid (index48_c h h63 b t ht)
  obtain ⟨a, cap, rfl⟩ := h.len
  clear h h63 ht
  go_enter Try.func46, Try.ntmps46
  go_wp2_with (go_at_call 56; refine HC.out.mono ?_; rintro e w2 ⟨r, rfl, hr, K⟩)
  go_ret
  exact ⟨by rw [← hr]; rfl, K⟩
theorem clo47_c (b : Nat) (t x0 x1 : Int) (w : World) (ht : w.cell? ⟨b, 0, none⟩ = some (.int .i64 t)) : Calls Try.prog 47 #[.agg #[.int .i64 x0, .int .i64 x1], .pointer (some ⟨b, 0, none⟩)] w fun e w' => e = .returned (.bool (inS t (x0, x1))) ∧ Kept (fun _ => False) w w' := by
  have hb := World.block_lt_of_cell? _ _ ht
  have H : inS t (x0, x1) = (decide (x0 ≤ t) && decide (t ≤ x1)) := rfl
  generalize inS t (x0, x1) = r at H ⊢
  replace H := Lib.hid H
  by_cases h1 : x0 ≤ t
  · by_cases h2 : t ≤ x1
    all_goals
      have H2 : Hid (r = decide (t ≤ x1)) := Lib.hid (by rw [H.out]; simp [h1])
      have H3 : Hid (r = _) := Lib.hid (H2.out.trans (by first | exact decide_eq_true h2 | exact decide_eq_false h2))
      simp only at hb
      go_enter Try.func47, Try.ntmps47
      go_wp2
      go_ret
      exact ⟨by rw [H3.out]; rfl, (Kept.refl _ _).alloc _⟩
  · have H2 : Hid (r = false) := Lib.hid (by rw [H.out]; simp [h1])
    simp only at hb
    go_enter Try.func47, Try.ntmps47
    go_wp2
    go_ret
    exact ⟨by rw [H2.out]; rfl, (Kept.refl _ _).alloc _⟩
set_option maxHeartbeats 1000000 in
theorem index47_c {w : World} {v : Value} {l : List Sp} (h : Prs w v l) (h63 : (l.length : Int) ≤ 9223372036854775807) (b : Nat) (t : Int) (ht : w.cell? ⟨b, 0, none⟩ = some (.int .i64 t)) :
    Calls Try.prog 56 #[v, .func (.func 47) #[] #[.pointer (some ⟨b, 0, none⟩)]] w (IdxP (has l t) w) := by
  have HQ := Lib.hid h
  have HT := Lib.hid ht
  obtain ⟨a, cap, rfl⟩ := h.len
  obtain ⟨n, hn⟩ : ∃ n : Nat, n = l.length := ⟨_, rfl⟩
  rw [← hn] at h63 ⊢
  have HN := Lib.hid hn
  clear h ht hn
  go_enter Try.func56, Try.ntmps56
  go_wp2
  go_loopw [8] (fun i wr => ∃ j : Nat, j ≤ n ∧ i = .int .i64 j ∧ has l t = has (l.drop j) t ∧ Kept (fun _ => False) w wr) (fun i _ => match i with | .int _ x => (n - x).toNat | _ => 0)
  case atStart => exact ⟨0, Nat.zero_le _, rfl, rfl, Kept.refl _ _⟩
  case round =>
    obtain ⟨j, hj, rfl, hc, K⟩ := hrel
    have HC := Lib.hid hc
    have HK := Lib.hid K
    clear hc K
    by_cases hlt : j < n
    · have hjl : j < l.length := by have := HN.out; omega
      obtain ⟨b0, off, cap', hv, hb, hcell⟩ := (HQ.out.same HK.out).pos (by omega)
      injection hv with e1 e2 e3
      subst e1 e3
      have c0 := (Prs.at hcell hjl).1
      have c1 := (Prs.at hcell hjl).2
      have hstep : has (l.drop j) t = (inS t l[j] || has (l.drop (j + 1)) t) := by rw [List.drop_eq_getElem_cons hjl, Bk.has_cons]; rfl
      have HS := Lib.hid hstep
      have HCL := Lib.hid (clo47_c b t l[j].1 l[j].2 wr ((HK.out.cell (a := ⟨b, 0, none⟩) (World.block_lt_of_cell? _ _ HT.out) (fun h => h)).trans HT.out))
      clear hcell hstep
      generalize l[j] = x at c0 c1 HS HCL
      obtain ⟨x0, x1⟩ := x
      simp only at c0 c1 HCL
      cases hs : inS t (x0, x1) with
      | true =>
        rw [hs] at HS HCL
        clear hs
        go_wp2_with fail
        refine HCL.out.mono ?_
        rintro e w2 ⟨rfl, K2⟩
        go_wp2
        go_ret
        exact ⟨j, rfl, by rw [HC.out, HS.out]; simp, HK.out.trans K2 (fun _ _ h => h)⟩
      | false =>
        rw [hs] at HS HCL
        clear hs
        go_wp2_with fail
        refine HCL.out.mono ?_
        rintro e w2 ⟨rfl, K2⟩
        go_wp2
        go_roundw
        case rel => exact ⟨j + 1, by omega, by go_num, by rw [HC.out, HS.out, Bool.false_or], HK.out.trans K2 (fun _ _ h => h)⟩
        case measure => simp; omega
    · obtain rfl : n = j := by omega
      have HR : Hid (has l t = false) := Lib.hid (by rw [HC.out, List.drop_eq_nil_of_le (by have := HN.out; omega)]; rfl)
      go_wp2
      go_ret
      exact ⟨-1, rfl, by rw [HR.out]; rfl, HK.out⟩
theorem contains47_c {w : World} {v : Value} {l : List Sp} (h : Prs w v l) (h63 : (l.length : Int) ≤ 9223372036854775807) (b : Nat) (t : Int) (ht : w.cell? ⟨b, 0, none⟩ = some (.int .i64 t)) :
    Calls Try.prog 46 #[v, .func (.func 47) #[] #[.pointer (some ⟨b, 0, none⟩)]] w fun e w' => e = .returned (.bool (has l t)) ∧ Kept (fun _ => False) w w' := by
  have HC := Lib.hid (index47_c h h63 b t ht)
  obtain ⟨a, cap, rfl⟩ := h.len
  clear h h63 ht
  go_enter Try.func46, Try.ntmps46
  go_wp2_with (go_at_call 56; refine HC.out.mono ?_; rintro e w2 ⟨r, rfl, hr, K⟩)
  go_ret
  exact ⟨by rw [← hr]; rfl, K⟩
end Go.Proofs.Ytaedijppbghnaaa
