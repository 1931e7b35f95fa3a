/- normal of the outright laws, at normal lists. -/
import Derived.Test.YtaedijppbghnaaaBkSpans
namespace Go.Proofs.Ytaedijppbghnaaa
open Go.RowKit
open Bk (Sp has chk vld)
set_option maxHeartbeats 1000000 in
theorem normal33_c {w : World} {v : Value} {l : List Sp} (h : Prs w v l) (h63 : l.length ≤ 4611686018427387904) (hnm : Bk.Norm l) (hg : Bk.Good l) : Calls Try.prog 33 #[v] w fun e w' => e = .returned (.bool true) ∧ Kept (fun _ => False) w w' := by
  have HQ := Lib.hid h
  have HNM := Lib.hid hnm
  have HG := Lib.hid hg
  obtain ⟨a, cap, rfl⟩ := h.len
  obtain ⟨n, hn⟩ : ∃ n : Nat, n = l.length := ⟨_, rfl⟩
  rw [← hn] at h63 ⊢
  have HN := Lib.hid hn
  clear h hg hn hnm
  go_enter Try.func33, Try.ntmps33
  go_wp2
  go_loopw [7] (fun i wr => ∃ j : Nat, j ≤ n ∧ i = .int .i64 j ∧ Kept (fun _ => False) w wr) (fun i _ => match i with | .int _ x => (n - x).toNat | _ => 0)
  case atStart => exact ⟨0, Nat.zero_le _, rfl, Kept.refl _ _⟩
  case round =>
    obtain ⟨j, hj, rfl, K⟩ := hrel
    have HK := Lib.hid K
    clear K
    by_cases hlt : j < n
    · have hjl : j < l.length := by have := HN.out; omega
      obtain ⟨b0, off, cap', hv, hb, hcell⟩ := (HQ.out.same HK.out).pos (by omega)
      injection hv with e1 e2 e3
      subst e1 e3
      have c0 := (Prs.at hcell hjl).1
      have c1 := (Prs.at hcell hjl).2
      have hle := HNM.out.le l[j] (List.getElem_mem hjl)
      have hb1 := HG.out.hi l[j] (List.getElem_mem hjl)
      have hb2 := HG.out.lo l[j] (List.getElem_mem hjl)
      cases j with
      | zero =>
        have KA : Hid (∀ x0 x1 q, Kept (fun _ => False) w ((wr.alloc (.cells #[.int .i64 x0, .int .i64 x1] 42)).drewN q)) := Lib.hid fun x0 x1 q => (HK.out.alloc _).drewN q
        clear hcell
        generalize l[0] = x at c0 c1 hle hb1 hb2
        obtain ⟨x0, x1⟩ := x
        simp only [Nat.zero_mul, Nat.add_zero] at c0 c1 hle hb1 hb2
        have hd : decide (x1 < x0) = false := by simp; omega
        have hz : ¬ (0 : Int) < 0 := by omega
        go_wp2
        go_quiet (fail)
        go_wp2
        go_roundw
        case rel => exact ⟨1, by omega, by go_num, KA.out _ _ _⟩
        case measure => simp; omega
      | succ k =>
        have hkl : k < l.length := by omega
        have d1 := (Prs.at hcell hkl).2
        have hgap := List.pairwise_iff_getElem.1 HNM.out.gap k (k + 1) hkl hjl (by omega)
        have hb4 := HG.out.hi l[k] (List.getElem_mem hkl)
        have hb5 := HG.out.lo l[k] (List.getElem_mem hkl)
        have hb6 := HG.out.le l[k] (List.getElem_mem hkl)
        clear hcell
        generalize l[k + 1] = x at c0 c1 hle hb1 hb2 hgap
        generalize l[k] = y at d1 hgap hb4 hb5 hb6
        obtain ⟨x0, x1⟩ := x
        obtain ⟨y0, y1⟩ := y
        simp only at c0 c1 d1 hle hb1 hb2 hb4 hb5 hb6 hgap
        have KA : Hid (∀ q, Kept (fun _ => False) w ((wr.alloc (.cells #[.int .i64 x0, .int .i64 x1] 42)).drewN q)) := Lib.hid fun q => (HK.out.alloc _).drewN q
        have hd : decide (x1 < x0) = false := by simp; omega
        have hd2 : decide (x0 < y1 + 2) = false := by simp; omega
        have hk1 : ((k + 1 : Nat) : Int) - 1 = k := by omega
        go_wp2
        go_quiet (fail)
        go_wp2
        go_roundw
        case rel => exact ⟨k + 2, by omega, by go_num, KA.out _⟩
        case measure => simp; omega
    · obtain rfl : n = j := by omega
      go_wp2
      go_ret
      exact ⟨rfl, HK.out⟩
end Go.Proofs.Ytaedijppbghnaaa
