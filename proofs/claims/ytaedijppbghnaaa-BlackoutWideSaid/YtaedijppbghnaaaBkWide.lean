/- The closed law of wide lists. -/
import Derived.Test.YtaedijppbghnaaaBkCount
import Derived.Test.YtaedijppbghnaaaArQuiet
namespace Go.Proofs.Ytaedijppbghnaaa
open Go.RowKit
open Bk (Sp has chk vld)

def odds : List Sp := (List.range 64).map fun (i : Nat) => (4 * (i : Int), 4 * (i : Int))
def evens : List Sp := (List.range 64).map fun (i : Nat) => (4 * (i : Int) + 2, 4 * (i : Int) + 2)
def allT : List Sp := [(0, 253402300799)]
theorem wide_u : err2 odds evens = 0 ∧ (Bk.rres wOr odds evens).length = 128 := by decide +kernel
theorem wide_w : err2 allT odds = 0 ∧ (Bk.rres wNot allT odds).length = 64 ∧ (Bk.rres wNot allT odds)[63]? = some (253, 253402300799) := by decide +kernel
theorem wide_f : freeF allT 0 = (0, false, 0) ∧ freeF [(0, 253402300798)] 7 = (253402300799, true, 0) := by decide +kernel
theorem wide_l : lenF allT 0 253402300799 = 253402300800 ∧ lenE allT 0 253402300799 = 0 := by decide +kernel
def many : List Sp := (-1, 0) :: List.replicate 64 (0, 0)
theorem wide_m : chk many = 12 ∧ chk (many.take 64) = 14 ∧ chk [((5 : Int), (4 : Int)), (-1, 0)] = 8 ∧ chk [((253402300800 : Int), (4 : Int))] = 14 ∧ chk [((0 : Int), (9223372036854775807 : Int))] = 14 ∧ chk [((-9223372036854775808 : Int), (9223372036854775807 : Int))] = 14 := by decide +kernel
set_option maxRecDepth 100000 in
set_option maxRecDepth 100000 in
set_option maxRecDepth 100000 in
theorem wide_mk : ∃ zs : Array Value, zs.toList = pc (List.replicate 65 (0, 0)) ∧ ∀ w, (Instr.makeSlice 23 (.int .i64 65) (.int .i64 65)).run Try.prog w = .ok (.slice (some ⟨w.heap.size, 0, none⟩) 65 65) (w.alloc (.cells zs 42)) := by
  obtain ⟨i0, hi, hz0, hz1, hz2⟩ := info_parts info42q
  refine ⟨madeCells #[.int .i64 0, .int .i64 0] 130, by kernel_rfl, fun w => ?_⟩
  have := run_make (P := Try.prog) w 23 42 i0 (.agg #[.int .i64 0, .int .i64 0]) Try.underlying23 hi hz0 .i64 .i64 65 65 (by omega) (by omega) (by rw [hz2]; omega) (by omega)
  have e : (65 : Int).toNat = 65 := rfl
  have e2 : (Value.agg #[.int .i64 0, .int .i64 0]).cells = #[.int .i64 0, .int .i64 0] := rfl
  have e3 : (65 : Nat) * 2 = 130 := rfl
  rw [hz1, e, e2, e3] at this
  generalize madeCells #[.int .i64 0, .int .i64 0] 130 = q at this ⊢
  exact this
theorem RowAt.prs {w : World} {b : Nat} {xs : List Sp} (h : RowAt w b (pc xs)) {n c : Nat} (hn : n ≤ xs.length) : Prs w (.slice (some ⟨b, 0, none⟩) n c) (xs.take n) := by
  by_cases h0 : n = 0
  · subst h0; exact Prs.nil _ _ _
  · refine .inr ⟨b, 0, c, by rw [List.length_take, Nat.min_eq_left hn], h.lt, fun j x hx => ?_⟩
    have hj := (List.getElem?_eq_some_iff.1 hx).1
    rw [List.length_take] at hj
    rw [List.getElem?_take_of_lt (by omega)] at hx
    rw [Nat.zero_add]
    exact ⟨h.get (pc_get hx).1, h.get (pc_get hx).2⟩
/-- What a round of the law's table has. -/
def Row7 (W : World) (D j : Nat) : Prop := ∃ a c, ∃ s : List Sp, ∃ e : Int, W.cell? ⟨D, j * 2, none⟩ = some (.slice a s.length c) ∧ W.cell? ⟨D, j * 2 + 1, none⟩ = some (.int .i64 e) ∧ Prs W (.slice a s.length c) s ∧ chk s = e ∧ s.length ≤ 65
theorem Row7.of {W : World} {D j : Nat} {v : Value} {s : List Sp} {e : Int} (h1 : W.cell? ⟨D, j * 2, none⟩ = some v) (h2 : W.cell? ⟨D, j * 2 + 1, none⟩ = some (.int .i64 e)) (h3 : Prs W v s) (h4 : chk s = e) (h5 : s.length ≤ 65) : Row7 W D j := by
  obtain ⟨a, c, rfl⟩ := h3.len
  exact ⟨a, c, s, e, h1, h2, h3, h4, h5⟩
theorem wide_row {s : List Sp} {e : Int} (h : chk s = e) : (e = 0 → askE s (-1) = 14 ∧ lenE s 3 (-1) = 14 ∧ lenE s 3 2 = 8 ∧ err2 s many = 12) ∧ (e ≠ 0 → askE s (-1) = e ∧ lenE s 3 (-1) = e ∧ lenE s 3 2 = e ∧ err2 s many = e) ∧ err2 many s = 12 := by
  have hv : vld (-1) = false := by decide
  refine ⟨fun h0 => ?_, fun h0 => ?_, ?_⟩
  · rw [h0] at h
    refine ⟨?_, ?_, ?_, ?_⟩
    · unfold askE; rw [if_neg (by simp [h]), hv]; rfl
    · unfold lenE; rw [if_neg (by simp [h]), if_pos (by decide)]
    · unfold lenE; rw [if_neg (by simp [h]), if_neg (by decide), if_pos (by decide)]
    · unfold err2; rw [if_neg (by simp [h]), wide_m.1]
  · have h1 : chk s ≠ 0 := by rw [h]; exact h0
    refine ⟨?_, ?_, ?_, ?_⟩
    · unfold askE; rw [if_pos h1, h]
    · unfold lenE; rw [if_pos h1, h]
    · unfold lenE; rw [if_pos h1, h]
    · unfold err2; rw [if_pos h1, h]
  · unfold err2
    rw [if_pos (by rw [wide_m.1]; decide), wide_m.1]
theorem rowAt_after {W : World} {b : Nat} {vs : List Value} (h : RowAt W b vs) (o : Obj) : RowAt (W.alloc o) b vs := h.same ((Kept.refl _ _).alloc o)
def W8of (W7 : World) (D n : Nat) : World :=
  ((((W7.alloc (.cells #[.int .i64 5, .int .i64 4, .int .i64 (-1), .int .i64 0] 42)).alloc (.cells #[.int .i64 253402300800, .int .i64 4] 42)).alloc (.cells #[.int .i64 0, .int .i64 9223372036854775807] 42)).alloc
    (.cells #[.int .i64 (-9223372036854775808), .int .i64 9223372036854775807] 42)).alloc
      (.cells #[.slice none 0 0, .int .i64 0, .slice (some ⟨D, 0, none⟩) 65 65, .int .i64 12, .slice (some ⟨D, 0, none⟩) 64 65, .int .i64 14, .slice (some ⟨n, 0, none⟩) 2 2, .int .i64 8,
        .slice (some ⟨n + 1, 0, none⟩) 1 1, .int .i64 14, .slice (some ⟨n + 1 + 1, 0, none⟩) 1 1, .int .i64 14, .slice (some ⟨n + 1 + 1 + 1, 0, none⟩) 1 1, .int .i64 14] 50)
theorem seven {W7 : World} {D n : Nat} (hs : W7.heap.size = n) (hm : Prs W7 (.slice (some ⟨D, 0, none⟩) 65 65) many) (h64 : Prs W7 (.slice (some ⟨D, 0, none⟩) 64 65) (many.take 64)) :
    (∀ j, j < 7 → Row7 (W8of W7 D n) (n + 1 + 1 + 1 + 1) j) ∧ Kept (fun _ => False) W7 (W8of W7 D n) ∧ n + 1 + 1 + 1 + 1 < (W8of W7 D n).heap.size := by
  subst hs
  unfold W8of
  have a1 := Prs.new (w := W7) (t := 42) (cap := 2) (cs := #[.int .i64 5, .int .i64 4, .int .i64 (-1), .int .i64 0]) [(5, 4), (-1, 0)] rfl rfl rfl
  have k1 := (Kept.refl (fun _ => False) W7).alloc (.cells #[.int .i64 5, .int .i64 4, .int .i64 (-1), .int .i64 0] 42)
  have s1 : (W7.alloc (.cells #[.int .i64 5, .int .i64 4, .int .i64 (-1), .int .i64 0] 42)).heap.size = W7.heap.size + 1 := by simp
  generalize W7.alloc (.cells #[.int .i64 5, .int .i64 4, .int .i64 (-1), .int .i64 0] 42) = X1 at a1 k1 s1 ⊢
  have a2 := Prs.new (w := X1) (t := 42) (cap := 1) (cs := #[.int .i64 253402300800, .int .i64 4]) [(253402300800, 4)] rfl rfl rfl
  have k2 := (Kept.refl (fun _ => False) X1).alloc (.cells #[.int .i64 253402300800, .int .i64 4] 42)
  have s2 : (X1.alloc (.cells #[.int .i64 253402300800, .int .i64 4] 42)).heap.size = X1.heap.size + 1 := by simp
  generalize X1.alloc (.cells #[.int .i64 253402300800, .int .i64 4] 42) = X2 at a2 k2 s2 ⊢
  have a3 := Prs.new (w := X2) (t := 42) (cap := 1) (cs := #[.int .i64 0, .int .i64 9223372036854775807]) [(0, 9223372036854775807)] rfl rfl rfl
  have k3 := (Kept.refl (fun _ => False) X2).alloc (.cells #[.int .i64 0, .int .i64 9223372036854775807] 42)
  have s3 : (X2.alloc (.cells #[.int .i64 0, .int .i64 9223372036854775807] 42)).heap.size = X2.heap.size + 1 := by simp
  generalize X2.alloc (.cells #[.int .i64 0, .int .i64 9223372036854775807] 42) = X3 at a3 k3 s3 ⊢
  have a4 := Prs.new (w := X3) (t := 42) (cap := 1) (cs := #[.int .i64 (-9223372036854775808), .int .i64 9223372036854775807]) [(-9223372036854775808, 9223372036854775807)] rfl rfl rfl
  have k4 := (Kept.refl (fun _ => False) X3).alloc (.cells #[.int .i64 (-9223372036854775808), .int .i64 9223372036854775807] 42)
  have s4 : (X3.alloc (.cells #[.int .i64 (-9223372036854775808), .int .i64 9223372036854775807] 42)).heap.size = X3.heap.size + 1 := by simp
  generalize X3.alloc (.cells #[.int .i64 (-9223372036854775808), .int .i64 9223372036854775807] 42) = X4 at a4 k4 s4 ⊢
  rw [s1] at a2 s2
  rw [s2] at a3 s3
  rw [s3] at a4 s4
  have T := fun (a b : World) (h : Kept (fun _ => False) a b) (c : World) (g : Kept (fun _ => False) b c) => h.trans g (fun _ _ h => h)
  have k34 := T _ _ k3 _ k4
  have k24 := T _ _ k2 _ k34
  have k14 := T _ _ k1 _ k24
  generalize hcs : (#[.slice none 0 0, .int .i64 0, .slice (some ⟨D, 0, none⟩) 65 65, .int .i64 12, .slice (some ⟨D, 0, none⟩) 64 65, .int .i64 14, .slice (some ⟨W7.heap.size, 0, none⟩) 2 2, .int .i64 8,
        .slice (some ⟨W7.heap.size + 1, 0, none⟩) 1 1, .int .i64 14, .slice (some ⟨W7.heap.size + 1 + 1, 0, none⟩) 1 1, .int .i64 14, .slice (some ⟨W7.heap.size + 1 + 1 + 1, 0, none⟩) 1 1, .int .i64 14] : Array Value) = cs
  have k5 := (Kept.refl (fun _ => False) X4).alloc (.cells cs 50)
  have hc : ∀ j, (X4.alloc (.cells cs 50)).cell? ⟨W7.heap.size + 1 + 1 + 1 + 1, j, none⟩ = cs[j]? := fun j => World.cell?_alloc_at _ _ _ _ s4.symm
  have s5 : (X4.alloc (.cells cs 50)).heap.size = X4.heap.size + 1 := by simp
  generalize X4.alloc (.cells cs 50) = X5 at k5 hc s5 ⊢
  refine ⟨fun j hj => ?_, T _ _ k14 _ k5, by omega⟩
  subst hcs
  match j with
  | 0 => exact Row7.of (s := []) (hc _) (hc _) (Prs.nil _ _ _) rfl (by simp)
  | 1 => exact Row7.of (hc _) (hc _) (hm.same (T _ _ k14 _ k5)) wide_m.1 (by decide)
  | 2 => exact Row7.of (hc _) (hc _) (h64.same (T _ _ k14 _ k5)) wide_m.2.1 (by decide)
  | 3 => exact Row7.of (hc _) (hc _) (a1.same (T _ _ k24 _ k5)) wide_m.2.2.1 (by decide)
  | 4 => exact Row7.of (hc _) (hc _) (a2.same (T _ _ k34 _ k5)) wide_m.2.2.2.1 (by decide)
  | 5 => exact Row7.of (hc _) (hc _) (a3.same (T _ _ k4 _ k5)) wide_m.2.2.2.2.1 (by decide)
  | 6 => exact Row7.of (hc _) (hc _) (a4.same k5) wide_m.2.2.2.2.2 (by decide)
set_option maxRecDepth 100000 in
set_option maxHeartbeats 4000000 in
theorem wide_w0 (w : World) : Calls Try.prog 10 #[] w (Tru w) := by
  have HPS := Lib.hid (PS.start w)
  have HOS : Hid (∀ j : Nat, odds.take (j + 1) = odds.take j ++ (match odds[j]? with | some x => [x] | none => [])) := Lib.hid fun j => by
    rw [List.take_add_one]; cases odds[j]? <;> rfl
  have HES : Hid (∀ j : Nat, evens.take (j + 1) = evens.take j ++ (match evens[j]? with | some x => [x] | none => [])) := Lib.hid fun j => by
    rw [List.take_add_one]; cases evens[j]? <;> rfl
  have HOJ : Hid (∀ j : Nat, j < 64 → odds[j]? = some (4 * (j : Int), 4 * (j : Int)) ∧ evens[j]? = some (4 * (j : Int) + 2, 4 * (j : Int) + 2)) := Lib.hid fun j hj => by
    unfold odds evens
    rw [List.getElem?_map, List.getElem?_map, List.getElem?_range hj]
    exact ⟨rfl, rfl⟩
  go_enter Try.func10, Try.ntmps10
  go_wp2
  go_loopw [1, 2, 36] (fun s r i wr => ∃ j : Nat, j ≤ 64 ∧ i = .int .i64 j ∧ PS w wr s j (pc (odds.take j)) ∧ PS w wr r j (pc (evens.take j)) ∧ (∀ b, s.ownBlock = some b → r.ownBlock ≠ some b)) (fun _ _ i _ => match i with | .int _ x => (64 - x).toNat | _ => 0)
  case atStart => exact ⟨0, by omega, rfl, HPS.out, HPS.out, fun b h => by simp [Value.ownBlock] at h⟩
  case round =>
    obtain ⟨j, hj, rfl, hp1, hp2, hne⟩ := hrel
    have H1 := Lib.hid hp1
    have H2 := Lib.hid hp2
    have HNE := Lib.hid hne
    clear hp1 hp2 hne HPS
    by_cases hlt : j < 64
    · have HB1 : Hid (j + 1 ≤ maxLen ∧ (j + 1) * 16 ≤ 140737488355328) := Lib.hid (by unfold maxLen; omega)
      have HON : Hid (∀ a b : Int, ∀ u ∈ [Value.int .i64 a, .int .i64 b], u.oneCell' = true) := Lib.hid (by intro a b u hu; simp at hu; rcases hu with rfl | rfl <;> rfl)
      have HO := Lib.hid (HOJ.out j hlt)
      go_wp2_with (at_builtin; go_loud (first
        | (refine wpList_app2 el23 rfl (.tmp 39) (.tmp 45) rfl w.heap.size u1 j (pc (odds.take j)) rfl H1.out.1 rfl rfl (HON.out _ _) HB1.out.1 HB1.out.2 H1.out.2.1 ?_; rintro g c w5 hown5 K5 hg; have HQ1 := Lib.hid (H1.out.step hown5 K5); have HK5 := Lib.hid K5; have HG := Lib.hid hg; have H2' := Lib.hid (show PS w w5 u2 j (pc (evens.take j)) from ⟨ownsRow_kept H2.out.1 K5 (fun b hb hv q => HNE.out b q hv), Nat.le_trans H2.out.2.1 K5.size, H2.out.2.2.trans K5 (fun i hi hv => by have := (ownsRow_block H1.out.1 hv).1; omega)⟩); clear hown5 K5 hg)
        | (refine wpList_app2 el23 rfl (.tmp 47) (.tmp 55) rfl w.heap.size u2 j (pc (evens.take j)) rfl H2'.out.1 rfl rfl (HON.out _ _) HB1.out.1 HB1.out.2 H2'.out.2.1 ?_; rintro g2 c2 w6 hown6 K6 hg2; have HQ2 := Lib.hid (H2'.out.step hown6 K6); have HK6 := Lib.hid K6; have HG2 := Lib.hid hg2; clear hown6 K6 hg2)))
      go_roundw
      case rel =>
        have e1 : odds.take (j + 1) = odds.take j ++ [(4 * (j : Int), 4 * (j : Int))] := by rw [HOS.out, HO.out.1]
        have e2 : evens.take (j + 1) = evens.take j ++ [(4 * (j : Int) + 2, 4 * (j : Int) + 2)] := by rw [HES.out, HO.out.2]
        have hg5 := ownsRow_block HQ1.out.1 (b := g) rfl
        have hu2 : ∀ b, u2.ownBlock = some b → b < wr.heap.size := fun b hb => (ownsRow_block H2.out.1 hb).2
        have hgu : u2.ownBlock ≠ some g := fun q => by
          rcases HG.out with h | h
          · exact HNE.out g h q
          · have := hu2 g q; omega
        refine ⟨j + 1, by omega, by go_num, ?_, ?_, ?_⟩
        · rw [e1, pc_append]
          exact ⟨ownsRow_kept HQ1.out.1 HK6.out (fun b _ hb q => by simp [Value.ownBlock] at hb; subst hb; exact hgu q), HQ2.out.2.1, HQ2.out.2.2⟩
        · rw [e2, pc_append]; exact HQ2.out
        · intro b hb hb2
          simp [Value.ownBlock] at hb hb2
          rcases HG2.out with h | h
          · rw [hb2, ← hb] at h; exact hgu h
          · omega
      case measure => simp; omega
    · obtain rfl : j = 64 := by omega
      have HT1 : Hid (odds.take 64 = odds ∧ evens.take 64 = evens) := Lib.hid (by decide +kernel)
      rw [HT1.out.1] at H1
      rw [HT1.out.2] at H2
      have HVo := Lib.hid (show Prs wr u1 odds from Prs.of_own (xs := odds) (base := w.heap.size) (e := 42) H1.out.1)
      have HVe := Lib.hid (show Prs wr u2 evens from Prs.of_own (xs := evens) (base := w.heap.size) (e := 42) H2.out.1)
      have HK0 := Lib.hid H1.out.2.2
      clear H1 H2 HNE HOS HES HOJ HT1
      obtain ⟨po, co, rfl⟩ := HVo.out.len
      obtain ⟨pe, ce, rfl⟩ := HVe.out.len
      have HKA := Lib.hid ((Kept.refl (fun _ => False) wr).alloc (.cells #[.int .i64 0, .int .i64 253402300799] 42))
      have HVl := Lib.hid (show Prs (wr.alloc (.cells #[.int .i64 0, .int .i64 253402300799] 42)) (.slice (some ⟨wr.heap.size, 0, none⟩) 1 1) allT from Prs.new allT rfl rfl rfl)
      have HL : Hid ((odds.length : Int) ≤ 9223372036854775807 ∧ (evens.length : Int) ≤ 9223372036854775807 ∧ (allT.length : Int) ≤ 9223372036854775807) := Lib.hid (by decide +kernel)
      go_wp2_with (go_at_call 13; fail)
      refine (op13_c (HVo.out.same HKA.out) (HVe.out.same HKA.out) HL.out.1 HL.out.2.1).mono ?_
      rintro e w1 ⟨vu, rfl, hv, -, K1⟩
      rw [wide_u.1, if_pos rfl] at hv
      rw [wide_u.1]
      obtain ⟨pu, cu, hvu⟩ := hv.len
      rw [wide_u.2] at hvu
      subst hvu
      have HKA1 := Lib.hid (HKA.out.trans K1 (fun _ _ h => h))
      have HVl1 := Lib.hid (HVl.out.same K1)
      have HVo1 := Lib.hid (HVo.out.same HKA1.out)
      clear hv K1 HVe HVl HVo HKA
      go_wp2_with (go_at_call 15; fail)
      refine (op15_c HVl1.out HVo1.out HL.out.2.2 HL.out.1).mono ?_
      rintro e w2 ⟨vw, rfl, hv, -, K2⟩
      rw [wide_w.1, if_pos rfl] at hv
      rw [wide_w.1]
      obtain ⟨bw, ow, cw, hvw, hbw, hcw⟩ := hv.pos (by rw [wide_w.2.1]; decide)
      have hq := hcw 63 _ wide_w.2.2
      rw [wide_w.2.1] at hvw
      subst hvw
      have HCW := Lib.hid (And.intro hbw hq)
      have HKA2 := Lib.hid (HKA1.out.trans K2 (fun _ _ h => h))
      have HVl2 := Lib.hid (HVl1.out.same K2)
      clear hv K2 HVl1 HVo1 HKA1 hbw hcw hq
      go_wp2_with (go_at_call 20; fail)
      refine (free_c HVl2.out HL.out.2.2 0).mono ?_
      rintro e w3 ⟨rfl, K3⟩
      rw [wide_f.1]
      have HKA3 := Lib.hid (HKA2.out.trans K3 (fun _ _ h => h))
      have HKW3 := Lib.hid K3
      have HVl3 := Lib.hid (HVl2.out.same K3)
      clear K3 HVl2 HKA2
      have HV4 := Lib.hid (show Prs (w3.alloc (.cells #[.int .i64 0, .int .i64 253402300798] 42)) (.slice (some ⟨w3.heap.size, 0, none⟩) 1 1) [(0, 253402300798)] from Prs.new _ rfl rfl rfl)
      have HKB := Lib.hid ((Kept.refl (fun _ => False) w3).alloc (.cells #[.int .i64 0, .int .i64 253402300798] 42))
      go_wp2_with (go_at_call 20; fail)
      refine (free_c HV4.out (by decide) 7).mono ?_
      rintro e w4 ⟨rfl, K4⟩
      rw [wide_f.2]
      have KB4 := HKB.out.trans K4 (fun _ _ h => h)
      have HKA4 := Lib.hid (HKA3.out.trans KB4 (fun _ _ h => h))
      have HKW4 := Lib.hid (HKW3.out.trans KB4 (fun _ _ h => h))
      have HVl4 := Lib.hid (HVl3.out.same KB4)
      clear K4 KB4 HKB HV4 HKA3 HKW3 HVl3
      go_wp2_with (go_at_call 16; fail)
      refine (length_c HVl4.out HL.out.2.2 0 253402300799).mono ?_
      rintro e w5 ⟨rfl, K5⟩
      rw [wide_l.1, wide_l.2]
      have HK5 := Lib.hid (HK0.out.trans (HKA4.out.trans K5 (fun _ _ h => h)) (fun _ _ h => h))
      have hkw := HKW4.out.trans K5 (fun _ _ h => h)
      have q0 := (hkw.cell (a := ⟨bw, ow + 63 * 2, none⟩) HCW.out.1 (fun h => h)).trans HCW.out.2.1
      have q1 := (hkw.cell (a := ⟨bw, ow + 63 * 2 + 1, none⟩) HCW.out.1 (fun h => h)).trans HCW.out.2.2
      simp only [Nat.reduceMul] at q0 q1
      clear hkw K5 HKA4 HKW4 HVl4 HCW HK0
      obtain ⟨zs, hzs, hmk⟩ := wide_mk
      have hmk5 := hmk w5
      clear hmk
      have row0 := RowAt.new w5 42 zs
      rw [hzs] at row0
      have HK6 := Lib.hid (HK5.out.alloc (.cells zs 42))
      have HLT5 : Hid (w5.heap.size < (w5.alloc (.cells zs 42)).heap.size) := Lib.hid (by simp)
      have KEY : Hid (∀ W6, RowAt W6 w5.heap.size (pc (List.replicate 65 (0, 0))) → RowAt ((W6.setCell ⟨w5.heap.size, 0, none⟩ (.int .i64 (-1))).setCell ⟨w5.heap.size, 1, none⟩ (.int .i64 0)) w5.heap.size (pc many)) := Lib.hid fun W6 r => by
        have r2 := (r.set (j := 0) (by decide) (.int .i64 (-1))).set (j := 1) (by decide) (.int .i64 0)
        have e : ((pc (List.replicate 65 (0, 0))).set 0 (.int .i64 (-1))).set 1 (.int .i64 0) = pc many := by kernel_rfl
        rw [e] at r2
        exact r2
      have HROW := Lib.hid row0
      generalize w5.alloc (.cells zs 42) = W6 at hmk5 HK6 HROW HLT5
      have d0 := HROW.out.get (j := 0) (v := .int .i64 0) rfl
      have d1 := HROW.out.get (j := 1) (v := .int .i64 0) rfl
      have z0 := HROW.out.fz 0
      have z1 := HROW.out.fz 1
      have HR7 := Lib.hid (KEY.out W6 HROW.out)
      have HK7 := Lib.hid ((HK6.out.setCell ⟨w5.heap.size, 0, none⟩ (.int .i64 (-1)) (fun h => by have := HK5.out.size; simp at h; omega)).setCell ⟨w5.heap.size, 1, none⟩ (.int .i64 0) (fun h => by have := HK5.out.size; simp at h; omega))
      clear row0 KEY hzs
      go_wp2
      have hs7 : ((W6.setCell ⟨w5.heap.size, 0, none⟩ (.int .i64 (-1))).setCell ⟨w5.heap.size, 1, none⟩ (.int .i64 0)).heap.size = W6.heap.size := by simp
      generalize (W6.setCell ⟨w5.heap.size, 0, none⟩ (.int .i64 (-1))).setCell ⟨w5.heap.size, 1, none⟩ (.int .i64 0) = W7 at HR7 HK7 hs7 ⊢
      have hmany := show Prs W7 (.slice (some ⟨w5.heap.size, 0, none⟩) 65 65) (many.take 65) from HR7.out.prs (by decide)
      have hm64 := show Prs W7 (.slice (some ⟨w5.heap.size, 0, none⟩) 64 65) (many.take 64) from HR7.out.prs (by decide)
      have hmt : many.take 65 = many := by decide +kernel
      rw [hmt] at hmany
      have hsv := seven hs7 hmany hm64
      have HMANY := Lib.hid (hmany.same hsv.2.1)
      have HSV := Lib.hid hsv.1
      have HK8 := Lib.hid (HK7.out.trans hsv.2.1 (fun _ _ h => h))
      have HLT := Lib.hid hsv.2.2
      clear hmany hm64 hmt hsv HR7 HK7 HK6 hmk5 d0 d1 z0 z1 HROW HLT5
      generalize w5.heap.size = D at HMANY HSV HK8 HLT ⊢
      generalize hn : W6.heap.size = n at HMANY HSV HK8 HLT ⊢
      change Code.wp _ _ _ _ (W8of W7 D n)
      generalize W8of W7 D n = W8 at HMANY HSV HK8 HLT ⊢
      have HML : Hid ((many.length : Int) ≤ 9223372036854775807) := Lib.hid (by decide +kernel)
      go_loopw [165] (fun i wr => ∃ j : Nat, j ≤ 7 ∧ i = .int .i64 j ∧ Kept (fun _ => False) W8 wr) (fun i _ => match i with | .int _ x => (7 - x).toNat | _ => 0)
      case atStart => exact ⟨0, by omega, rfl, Kept.refl _ _⟩
      case round =>
        obtain ⟨j, hj, rfl, K⟩ := hrel
        have HK := Lib.hid K
        clear K
        by_cases hlt : j < 7
        · obtain ⟨ad, cd, l, e, g0, g1, hl, hce, hll⟩ := HSV.out j hlt
          have c0 := (HK.out.cell (a := ⟨n + 1 + 1 + 1 + 1, j * 2, none⟩) HLT.out (fun h => h)).trans g0
          have c1 := (HK.out.cell (a := ⟨n + 1 + 1 + 1 + 1, j * 2 + 1, none⟩) HLT.out (fun h => h)).trans g1
          have HLl := Lib.hid (hl.same HK.out)
          have HLL : Hid ((l.length : Int) ≤ 9223372036854775807) := Lib.hid (by omega)
          have HCE := Lib.hid hce
          obtain ⟨r0, r1, r2⟩ := wide_row hce
          have HR0 := Lib.hid r0
          have HR1 := Lib.hid r1
          have HR2 := Lib.hid r2
          have HROW := Lib.hid (show RowAt (wr.alloc (.cells #[.slice ad l.length cd, .int .i64 e] 50)) wr.heap.size [.slice ad l.length cd, .int .i64 e] from RowAt.new wr 50 #[.slice ad l.length cd, .int .i64 e])
          have HKA := Lib.hid ((Kept.refl (fun _ => False) wr).alloc (.cells #[.slice ad l.length cd, .int .i64 e] 50))
          clear g0 g1 hl hce r0 r1 r2
          by_cases he : e = 0
          · obtain ⟨q1, q2, q3, q4⟩ := HR0.out he
            have Q := Lib.hid (And.intro q1 (And.intro q2 (And.intro q3 q4)))
            have HF : Hid (freeF l (-1) = (0, false, 14)) := Lib.hid (by unfold freeF; rw [q1, if_pos (by decide)])
            have HNE : Hid (¬ (14 : Int) = 0) := Lib.hid (by decide)
            clear q1 q2 q3 q4
            subst he
            go_wp2_with (go_at_call 27; fail)
            refine (in_c (HLl.out.same HKA.out) HLL.out (-1)).mono ?_
            rintro e2 y1 ⟨rfl, K1⟩
            rw [Q.out.1, if_neg HNE.out]
            have HQ1 := Lib.hid (HKA.out.trans K1 (fun _ _ h => h))
            have HROW1 := Lib.hid (HROW.out.same K1)
            have f0 := HROW1.out.get (j := 0) rfl
            have f1 := HROW1.out.get (j := 1) rfl
            clear K1
            go_wp2_with (go_at_call 20; fail)
            refine (free_c (HLl.out.same HQ1.out) HLL.out (-1)).mono ?_
            rintro e2 y2 ⟨rfl, K2⟩
            rw [HF.out]
            have HQ2 := Lib.hid (HQ1.out.trans K2 (fun _ _ h => h))
            have HROW2 := Lib.hid (HROW1.out.same K2)
            have f0 := HROW2.out.get (j := 0) rfl
            have f1 := HROW2.out.get (j := 1) rfl
            clear K2
            go_wp2_with (go_at_call 13; fail)
            refine (op13_c (HLl.out.same HQ2.out) (HMANY.out.same (HK.out.trans HQ2.out (fun _ _ h => h))) HLL.out HML.out).mono ?_
            rintro e2 y3 ⟨vz, rfl, -, -, K3⟩
            rw [Q.out.2.2.2]
            have HQ3 := Lib.hid (HQ2.out.trans K3 (fun _ _ h => h))
            have HROW3 := Lib.hid (HROW2.out.same K3)
            have f0 := HROW3.out.get (j := 0) rfl
            have f1 := HROW3.out.get (j := 1) rfl
            clear K3
            go_wp2_with (go_at_call 14; fail)
            refine (op14_c (HMANY.out.same (HK.out.trans HQ3.out (fun _ _ h => h))) (HLl.out.same HQ3.out) HML.out HLL.out).mono ?_
            rintro e2 y4 ⟨vz, rfl, -, -, K4⟩
            rw [HR2.out]
            have HQ4 := Lib.hid (HQ3.out.trans K4 (fun _ _ h => h))
            have HROW4 := Lib.hid (HROW3.out.same K4)
            have f0 := HROW4.out.get (j := 0) rfl
            have f1 := HROW4.out.get (j := 1) rfl
            clear K4
            go_wp2_with (go_at_call 16; fail)
            refine (length_c (HLl.out.same HQ4.out) HLL.out 3 (-1)).mono ?_
            rintro e2 y5 ⟨rfl, K5⟩
            rw [Q.out.2.1]
            have HQ5 := Lib.hid (HQ4.out.trans K5 (fun _ _ h => h))
            have HROW5 := Lib.hid (HROW4.out.same K5)
            have f0 := HROW5.out.get (j := 0) rfl
            have f1 := HROW5.out.get (j := 1) rfl
            clear K5
            go_wp2_with (go_at_call 16; fail)
            refine (length_c (HLl.out.same HQ5.out) HLL.out 3 2).mono ?_
            rintro e2 y6 ⟨rfl, K6⟩
            rw [Q.out.2.2.1]
            have HQ6 := Lib.hid (HQ5.out.trans K6 (fun _ _ h => h))
            have HROW6 := Lib.hid (HROW5.out.same K6)
            have f0 := HROW6.out.get (j := 0) rfl
            have f1 := HROW6.out.get (j := 1) rfl
            clear K6
            go_wp2
            go_quiet (fail)
            rename_i nq _
            have HQ7 := Lib.hid (HQ6.out.drewN nq)
            have HROW7 := Lib.hid (HROW6.out.same ((Kept.refl _ _).drewN nq))
            generalize y6.drewN nq = y7 at HQ7 HROW7 ⊢
            have f0 := HROW7.out.get (j := 0) rfl
            have f1 := HROW7.out.get (j := 1) rfl
            go_wp2_with fail
            have hA : wr.heap.size < y7.heap.size := HROW7.out.lt
            refine wp_region_class (fun W => (W.cell? ⟨wr.heap.size, 0, none⟩ = some (.slice ad l.length cd) ∧ W.cell? ⟨wr.heap.size, 1, none⟩ = some (.int .i64 0)) ∧ wr.heap.size < W.heap.size ∧ Kept (fun _ => False) wr W) (by kernel_rfl) (by kernel_rfl) ⟨⟨f0, f1⟩, hA, HQ7.out.drew⟩ ?_
            clear f0 f1 hA
            iterate 2 (refine wpQuiet_yes rfl ?_ (fun W hC => ?_) ?_; rotate_left; (obtain ⟨⟨f0, f1⟩, -, -⟩ := hC; go_simp; rfl); go_simp)
            refine wpQuiet_yes rfl (.int .i64 0) (fun W hC => ?_) ?_
            · obtain ⟨⟨f0, f1⟩, l1, K0⟩ := hC
              go_simp
              refine (check_c (HLl.out.same K0) HLL.out).mono ?_
              rintro e3 W' ⟨rfl, K⟩
              rw [HCE.out]
              exact ⟨rfl, ⟨(K.cell (a := ⟨wr.heap.size, 0, none⟩) l1 (fun h => h)).trans f0, (K.cell (a := ⟨wr.heap.size, 1, none⟩) l1 (fun h => h)).trans f1⟩, Nat.lt_of_lt_of_le l1 K.size, K0.trans K (fun _ _ h => h)⟩
            go_simp
            iterate 32 (refine wpQuiet_yes rfl ?_ (fun W hC => ?_) ?_; rotate_left; (obtain ⟨⟨f0, f1⟩, -, -⟩ := hC; go_simp; rfl); go_simp)
            refine wpQuiet_nil ?_
            intro y8 _ _ _ K8
            go_wp2
            go_roundw
            case rel => exact ⟨j + 1, by omega, by go_num, HK.out.trans K8 (fun _ _ h => h)⟩
            case measure => simp; omega

          · obtain ⟨q1, q2, q3, q4⟩ := HR1.out he
            have Q := Lib.hid (And.intro q1 (And.intro q2 (And.intro q3 q4)))
            have HF : Hid (freeF l (-1) = (0, false, e)) := Lib.hid (by unfold freeF; rw [q1, if_pos he])
            have HNE : Hid (¬ e = 0) := Lib.hid he
            have hbe : (e == 0) = false := by simpa using he
            clear q1 q2 q3 q4
            go_wp2_with (go_at_call 27; fail)
            refine (in_c (HLl.out.same HKA.out) HLL.out (-1)).mono ?_
            rintro e2 y1 ⟨rfl, K1⟩
            rw [Q.out.1, if_neg HNE.out]
            have HQ1 := Lib.hid (HKA.out.trans K1 (fun _ _ h => h))
            have HROW1 := Lib.hid (HROW.out.same K1)
            have f0 := HROW1.out.get (j := 0) rfl
            have f1 := HROW1.out.get (j := 1) rfl
            clear K1
            go_wp2_with (go_at_call 20; fail)
            refine (free_c (HLl.out.same HQ1.out) HLL.out (-1)).mono ?_
            rintro e2 y2 ⟨rfl, K2⟩
            rw [HF.out]
            have HQ2 := Lib.hid (HQ1.out.trans K2 (fun _ _ h => h))
            have HROW2 := Lib.hid (HROW1.out.same K2)
            have f0 := HROW2.out.get (j := 0) rfl
            have f1 := HROW2.out.get (j := 1) rfl
            clear K2
            go_wp2_with (go_at_call 13; fail)
            refine (op13_c (HLl.out.same HQ2.out) (HMANY.out.same (HK.out.trans HQ2.out (fun _ _ h => h))) HLL.out HML.out).mono ?_
            rintro e2 y3 ⟨vz, rfl, -, -, K3⟩
            rw [Q.out.2.2.2]
            have HQ3 := Lib.hid (HQ2.out.trans K3 (fun _ _ h => h))
            have HROW3 := Lib.hid (HROW2.out.same K3)
            have f0 := HROW3.out.get (j := 0) rfl
            have f1 := HROW3.out.get (j := 1) rfl
            clear K3
            go_wp2_with (go_at_call 14; fail)
            refine (op14_c (HMANY.out.same (HK.out.trans HQ3.out (fun _ _ h => h))) (HLl.out.same HQ3.out) HML.out HLL.out).mono ?_
            rintro e2 y4 ⟨vz, rfl, -, -, K4⟩
            rw [HR2.out]
            have HQ4 := Lib.hid (HQ3.out.trans K4 (fun _ _ h => h))
            have HROW4 := Lib.hid (HROW3.out.same K4)
            have f0 := HROW4.out.get (j := 0) rfl
            have f1 := HROW4.out.get (j := 1) rfl
            clear K4
            go_wp2_with (go_at_call 16; fail)
            refine (length_c (HLl.out.same HQ4.out) HLL.out 3 (-1)).mono ?_
            rintro e2 y5 ⟨rfl, K5⟩
            rw [Q.out.2.1]
            have HQ5 := Lib.hid (HQ4.out.trans K5 (fun _ _ h => h))
            have HROW5 := Lib.hid (HROW4.out.same K5)
            have f0 := HROW5.out.get (j := 0) rfl
            have f1 := HROW5.out.get (j := 1) rfl
            clear K5
            go_wp2_with (go_at_call 16; fail)
            refine (length_c (HLl.out.same HQ5.out) HLL.out 3 2).mono ?_
            rintro e2 y6 ⟨rfl, K6⟩
            rw [Q.out.2.2.1]
            have HQ6 := Lib.hid (HQ5.out.trans K6 (fun _ _ h => h))
            have HROW6 := Lib.hid (HROW5.out.same K6)
            have f0 := HROW6.out.get (j := 0) rfl
            have f1 := HROW6.out.get (j := 1) rfl
            clear K6
            go_wp2
            go_quiet (fail)
            rename_i nq _
            have HQ7 := Lib.hid (HQ6.out.drewN nq)
            have HROW7 := Lib.hid (HROW6.out.same ((Kept.refl _ _).drewN nq))
            generalize y6.drewN nq = y7 at HQ7 HROW7 ⊢
            have f0 := HROW7.out.get (j := 0) rfl
            have f1 := HROW7.out.get (j := 1) rfl
            go_wp2_with fail
            have hA : wr.heap.size < y7.heap.size := HROW7.out.lt
            refine wp_region_class (fun W => (W.cell? ⟨wr.heap.size, 0, none⟩ = some (.slice ad l.length cd) ∧ W.cell? ⟨wr.heap.size, 1, none⟩ = some (.int .i64 e)) ∧ wr.heap.size < W.heap.size ∧ Kept (fun _ => False) wr W) (by kernel_rfl) (by kernel_rfl) ⟨⟨f0, f1⟩, hA, HQ7.out.drew⟩ ?_
            clear f0 f1 hA
            iterate 2 (refine wpQuiet_yes rfl ?_ (fun W hC => ?_) ?_; rotate_left; (obtain ⟨⟨f0, f1⟩, -, -⟩ := hC; go_simp; rfl); go_simp)
            refine wpQuiet_yes rfl (.int .i64 e) (fun W hC => ?_) ?_
            · obtain ⟨⟨f0, f1⟩, l1, K0⟩ := hC
              go_simp
              refine (check_c (HLl.out.same K0) HLL.out).mono ?_
              rintro e3 W' ⟨rfl, K⟩
              rw [HCE.out]
              exact ⟨rfl, ⟨(K.cell (a := ⟨wr.heap.size, 0, none⟩) l1 (fun h => h)).trans f0, (K.cell (a := ⟨wr.heap.size, 1, none⟩) l1 (fun h => h)).trans f1⟩, Nat.lt_of_lt_of_le l1 K.size, K0.trans K (fun _ _ h => h)⟩
            go_simp
            iterate 32 (refine wpQuiet_yes rfl ?_ (fun W hC => ?_) ?_; rotate_left; (obtain ⟨⟨f0, f1⟩, -, -⟩ := hC; go_simp; rfl); go_simp)
            refine wpQuiet_nil ?_
            intro y8 _ _ _ K8
            go_wp2
            go_roundw
            case rel => exact ⟨j + 1, by omega, by go_num, HK.out.trans K8 (fun _ _ h => h)⟩
            case measure => simp; omega

        · obtain rfl : j = 7 := by omega
          have HKF := Lib.hid (HK8.out.trans HK.out (fun _ _ h => h))
          go_wp2_with (go_at_call 17; refine (works_c _).mono ?_; rintro e ww ⟨rfl, KW⟩)
          go_ret
          exact ⟨rfl, HKF.out.trans KW (fun _ _ h => h)⟩
end Go.Proofs.Ytaedijppbghnaaa
