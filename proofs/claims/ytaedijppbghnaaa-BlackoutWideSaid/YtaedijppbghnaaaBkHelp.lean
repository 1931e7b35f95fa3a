/- slices.Equal and slices.Clone at spans; few, example. -/
import Derived.Test.YtaedijppbghnaaaBkR6
import Derived.Lib.SliceRun
namespace Go.Proofs.Ytaedijppbghnaaa
open Go.RowKit
open Bk (Sp has chk vld)

theorem take_eq_step {l m : List Sp} {j : Nat} (h1 : j < l.length) (h2 : j < m.length) (h : l.take j = m.take j) : (l[j] = m[j] → l.take (j + 1) = m.take (j + 1)) ∧ (l[j] ≠ m[j] → l ≠ m) := by
  refine ⟨fun e => ?_, fun e q => ?_⟩
  · rw [List.take_add_one, List.take_add_one, List.getElem?_eq_getElem h1, List.getElem?_eq_getElem h2, h, e]
  · subst q; exact e rfl
set_option maxHeartbeats 2000000 in
theorem equal_c {w : World} {va vb : Value} {l m : List Sp} (ha : Prs w va l) (hb : Prs w vb m) (h63 : l.length ≤ 4611686018427387904) (g63 : m.length ≤ 4611686018427387904) :
    Calls Try.prog 25 #[va, vb] w fun e w' => e = .returned (.bool (decide (l = m))) ∧ Kept (fun _ => False) w w' := by
  have HA := Lib.hid ha
  have HB := Lib.hid hb
  obtain ⟨aa, ca, rfl⟩ := ha.len
  obtain ⟨ab, cb, rfl⟩ := hb.len
  obtain ⟨n, hn⟩ : ∃ n : Nat, n = l.length := ⟨_, rfl⟩
  obtain ⟨k, hk⟩ : ∃ n : Nat, n = m.length := ⟨_, rfl⟩
  rw [← hn] at h63 ⊢
  rw [← hk] at g63 ⊢
  have HN := Lib.hid hn
  have HK := Lib.hid hk
  clear ha hb hn hk
  by_cases hnk : n = k
  · subst hnk
    go_enter Try.func25, Try.ntmps25
    go_wp2
    go_loopw [13] (fun i wr => ∃ j : Nat, j ≤ n ∧ i = .int .i64 j ∧ l.take j = m.take j ∧ Kept (fun _ => False) w wr) (fun i _ => match i with | .int _ x => (n - x).toNat | _ => 0)
    case atStart => exact ⟨0, Nat.zero_le _, rfl, rfl, Kept.refl _ _⟩
    case round =>
      obtain ⟨j, hj, rfl, hc, K⟩ := hrel
      have HKK := Lib.hid K
      have HC := Lib.hid hc
      clear K hc
      by_cases hlt : j < n
      · have hjl : j < l.length := by have := HN.out; omega
        have hjm : j < m.length := by have := HK.out; omega
        obtain ⟨b0, off, cap', hv, hb0, hcell⟩ := (HA.out.same HKK.out).pos (by omega)
        injection hv with e1 e2 e3
        subst e1 e3
        obtain ⟨b1, off1, cap1, hv, hb1, hcell1⟩ := (HB.out.same HKK.out).pos (by omega)
        injection hv with e1 e2 e3
        subst e1 e3
        have c0 := (Prs.at hcell hjl).1
        have c1 := (Prs.at hcell hjl).2
        have d0 := (Prs.at hcell1 hjm).1
        have d1 := (Prs.at hcell1 hjm).2
        have HT := Lib.hid (take_eq_step hjl hjm HC.out)
        clear hcell hcell1
        generalize l[j] = x at c0 c1 HT
        generalize m[j] = y at d0 d1 HT
        obtain ⟨x0, x1⟩ := x
        obtain ⟨y0, y1⟩ := y
        simp only at c0 c1 d0 d1
        by_cases hx : x0 = y0 ∧ x1 = y1
        · obtain ⟨rfl, rfl⟩ := hx
          have HR := Lib.hid (HT.out.1 rfl)
          go_wp2
          go_quiet (fail)
          go_wp2
          go_roundw
          case rel => exact ⟨j + 1, by omega, by go_num, HR.out, HKK.out.drewN _⟩
          case measure => simp; omega
        · have HR : Hid (decide (l = m) = false) := Lib.hid (by simpa using HT.out.2 (fun e => hx (by injection e with e1 e2; exact ⟨e1, e2⟩)))
          by_cases hx0 : x0 = y0
          · subst hx0
            have hx1 : ¬ x1 = y1 := fun e => hx ⟨rfl, e⟩
            have hb1 : (x1 == y1) = false := by simpa using hx1
            have hb2 : decide (x1 = y1) = false := by simpa using hx1
            clear hx
            go_wp2
            go_quiet (fail)
            go_wp2
            go_ret
            exact ⟨by rw [HR.out]; rfl, HKK.out.drewN _⟩
          · have hb1 : (x0 == y0) = false := by simpa using hx0
            have hb2 : decide (x0 = y0) = false := by simpa using hx0
            clear hx
            go_wp2
            go_quiet (fail)
            go_wp2
            go_ret
            exact ⟨by rw [HR.out]; rfl, HKK.out.drewN _⟩
      · obtain rfl : n = j := by omega
        have HR : Hid (decide (l = m) = true) := Lib.hid (by
          have h1 := HC.out
          rw [List.take_of_length_le (by have := HN.out; omega), List.take_of_length_le (by have := HK.out; omega)] at h1
          simpa using h1)
        go_wp2
        go_ret
        exact ⟨by rw [HR.out]; rfl, HKK.out⟩
  · have HR : Hid (decide (l = m) = false) := Lib.hid (by
      simp only [decide_eq_false_iff_not]
      intro e
      exact hnk (by rw [HN.out, HK.out, e]))
    have hne : ((n : Int) != (k : Int)) = true := by simp; omega
    go_enter Try.func25, Try.ntmps25
    go_wp2
    go_ret
    exact ⟨by rw [HR.out]; rfl, Kept.refl _ _⟩
def ClonePost (l : List Sp) (w : World) (e : Ending) (w' : World) : Prop := ∃ v', e = .returned v' ∧ Prs w' v' l ∧ Nz v' ∧ Kept (fun _ => False) w w'
set_option maxRecDepth 100000 in
theorem clone_c {w : World} {va : Value} {l : List Sp} (ha : Prs w va l) (za : Nz va) (hl : l.length ≤ 100000) : Calls Try.prog 22 #[va] w (ClonePost l w) := by
  have HA := Lib.hid ha
  have HZ := Lib.hid za
  obtain ⟨aa, ca, rfl⟩ := ha.len
  cases aa with
  | none =>
    obtain ⟨h0, rfl⟩ := za _ _ rfl
    have HL : Hid (l = []) := Lib.hid (List.eq_nil_of_length_eq_zero h0)
    rw [h0]
    clear ha za h0 hl HA HZ
    have hnil := Lib.run_eql_slice_nil (P := Try.prog) w 23 42 none 0 0 0 0 Try.underlying23
    go_enter Try.func22, Try.ntmps22
    go_wp2
    go_ret
    exact ⟨_, rfl, by rw [HL.out]; exact Prs.nil _ _ _, Nz.nil, Kept.refl _ _⟩
  | some ad =>
    have HN : Hid (0 + l.length ≤ maxLen ∧ (0 + l.length) * 16 ≤ 140737488355328) := Lib.hid (by unfold maxLen; omega)
    have HO : Hid ((w.alloc (.cells #[] 42)).ownsRow w.heap.size 42 2 (.slice (some ⟨w.heap.size, 0, none⟩) 0 0) 0 []) := Lib.hid (World.ownsRow_lit w #[] 0 (Nat.le_refl _) (by decide) rfl)
    have HK := Lib.hid ((Kept.refl (fun _ => False) w).alloc (.cells #[] 42))
    have HK2 : Hid (∀ w1, Kept (fun b => (Value.slice (some ⟨w.heap.size, 0, none⟩) 0 0).ownBlock = some b) (w.alloc (.cells #[] 42)) w1 → Kept (fun _ => False) w w1) := Lib.hid fun w1 K => HK.out.trans K (fun i hi h => by simp [Value.ownBlock] at h; omega)
    have hnil := Lib.run_eql_slice_nil (P := Try.prog) w 23 42 (some ad) l.length ca 0 0 Try.underlying23
    clear ha za
    go_enter Try.func22, Try.ntmps22
    go_wp2_with (at_builtin; refine wpList_appP rfl (.tmp 5) (.tmp 6) rfl w.heap.size (.slice (some ⟨w.heap.size, 0, none⟩) 0 0) 0 [] rfl HO.out _ l (HA.out.same HK.out) HZ.out rfl HN.out.1 HN.out.2 HK.out.size ?_)
    rintro v1 w1 hown1 K1
    have HO1 : Hid (w1.ownsRow w.heap.size 42 2 v1 l.length (pc l)) := Lib.hid hown1
    have HK1 := Lib.hid (HK2.out w1 K1)
    clear hown1 K1
    go_wp2
    go_ret
    exact ⟨_, rfl, Prs.of_own HO1.out, Nz.own HO1.out, HK1.out⟩
/-- A slice of slices, by lengths. -/
def SLs (w : World) (v : Value) (ns : List Nat) : Prop := ∃ b off cap, v = .slice (some ⟨b, off, none⟩) ns.length cap ∧ ∀ i n, ns[i]? = some n → n ≤ 9223372036854775807 ∧ ∃ a c, w.cell? ⟨b, off + i, none⟩ = some (.slice a n c)
theorem clo42_c (a : Option Addr) (n c : Nat) (h : n ≤ 9223372036854775807) (w : World) : Calls Try.prog 42 #[.slice a n c] w fun e w' => e = .returned (.bool (decide (100 < n))) ∧ w = w' := by
  obtain ⟨r, hr⟩ : ∃ r, decide (100 < n) = r := ⟨_, rfl⟩
  have hr2 : decide ((n : Int) > 100) = r := by rw [← hr]; simp only [decide_eq_decide]; omega
  rw [hr]
  clear hr
  go_enter Try.func42, Try.ntmps42
  go_wp2
  go_ret
  exact ⟨rfl, rfl⟩
def big (ns : List Nat) : Bool := ns.any fun n => decide (100 < n)
set_option maxHeartbeats 1000000 in
theorem index42_c {w : World} {v : Value} {ns : List Nat} (h : SLs w v ns) (hl : ns.length ≤ 1000) :
    Calls Try.prog 53 #[v, .func (.func 42) #[] #[]] w fun e w' => ∃ r : Int, e = .returned (.int .i64 r) ∧ decide (r ≥ 0) = big ns ∧ w = w' := by
  obtain ⟨b, off, cap, rfl, hc⟩ := h
  have HC := Lib.hid hc
  obtain ⟨n, hn⟩ : ∃ n : Nat, n = ns.length := ⟨_, rfl⟩
  rw [← hn] at hl ⊢
  have HN := Lib.hid hn
  clear hc hn
  go_enter Try.func53, Try.ntmps53
  go_wp2
  go_loopw [8] (fun i wr => ∃ j : Nat, j ≤ n ∧ i = .int .i64 j ∧ big ns = big (ns.drop j) ∧ w = wr) (fun i _ => match i with | .int _ x => (n - x).toNat | _ => 0)
  case atStart => exact ⟨0, Nat.zero_le _, rfl, rfl, rfl⟩
  case round =>
    obtain ⟨j, hj, rfl, hb, rfl⟩ := hrel
    have HB := Lib.hid hb
    clear hb
    by_cases hlt : j < n
    · have hjl : j < ns.length := by have := HN.out; omega
      obtain ⟨hle, a, c, c0⟩ := HC.out j ns[j] (List.getElem?_eq_getElem hjl)
      have HS : Hid (big (ns.drop j) = (decide (100 < ns[j]) || big (ns.drop (j + 1)))) := Lib.hid (by rw [List.drop_eq_getElem_cons hjl]; rfl)
      generalize ns[j] = x at hle c0 HS
      have HCL := Lib.hid (clo42_c a x c hle w)
      cases hx : decide (100 < x) with
      | true =>
        rw [hx] at HS HCL
        clear hx
        go_wp2_with fail
        refine HCL.out.mono ?_
        rintro e w2 ⟨rfl, rfl⟩
        go_wp2
        go_ret
        exact ⟨j, rfl, by rw [HB.out, HS.out]; simp, rfl⟩
      | false =>
        rw [hx] at HS HCL
        clear hx
        go_wp2_with fail
        refine HCL.out.mono ?_
        rintro e w2 ⟨rfl, rfl⟩
        go_wp2
        go_roundw
        case rel => exact ⟨j + 1, by omega, by go_num, by rw [HB.out, HS.out, Bool.false_or], trivial⟩
        case measure => simp; omega
    · obtain rfl : n = j := by omega
      have HR : Hid (big ns = false) := Lib.hid (by rw [HB.out, List.drop_eq_nil_of_le (by have := HN.out; omega)]; rfl)
      go_wp2
      go_ret
      exact ⟨-1, rfl, by rw [HR.out]; rfl, rfl⟩
theorem contains42_c {w : World} {v : Value} {ns : List Nat} (h : SLs w v ns) (hl : ns.length ≤ 1000) : Calls Try.prog 41 #[v, .func (.func 42) #[] #[]] w fun e w' => e = .returned (.bool (big ns)) ∧ w = w' := by
  have HC := Lib.hid (index42_c h hl)
  obtain ⟨b, off, cap, rfl, hc⟩ := h
  clear hc hl
  go_enter Try.func41, Try.ntmps41
  go_wp2_with (go_at_call 53; refine HC.out.mono ?_; rintro e w2 ⟨r, rfl, hr, rfl⟩)
  go_ret
  exact ⟨by rw [← hr]; rfl, rfl⟩
theorem few_c {w : World} {v : Value} {ns : List Nat} (h : SLs w v ns) (hl : ns.length ≤ 1000) : Calls Try.prog 18 #[v] w fun e w' => e = .returned (.bool (!big ns)) ∧ w = w' := by
  have HC := Lib.hid (contains42_c h hl)
  obtain ⟨b, off, cap, rfl, hc⟩ := h
  clear hc hl
  go_enter Try.func18, Try.ntmps18
  go_wp2_with (go_at_call 41; refine HC.out.mono ?_; rintro e w2 ⟨rfl, rfl⟩)
  go_ret
  exact ⟨rfl, rfl⟩
def exl : List Sp := [(10, 20), (30, 40), (15, 25), (26, 28)]
theorem example_c (w : World) : Calls Try.prog 40 #[] w fun e w' => ∃ v, e = .returned v ∧ Prs w' v exl ∧ Nz v ∧ Kept (fun _ => False) w w' := by
  go_enter Try.func40, Try.ntmps40
  go_wp2
  go_ret
  exact ⟨_, rfl, Prs.new exl rfl rfl rfl, Nz.some _ _ _, (Kept.refl _ _).alloc _⟩
end Go.Proofs.Ytaedijppbghnaaa
