/- slices.Grow and slices.Concat at spans. -/
import Derived.Test.YtaedijppbghnaaaBkCount
import Derived.Lib.AppendZeros
namespace Go.Proofs.Ytaedijppbghnaaa
open Go.RowKit
open Bk (Sp has chk vld)

theorem zeroCells_size (z : Array Value) : ∀ n, (Builtin.zeroCells z n).size = n * z.size := by
  intro n
  unfold Builtin.zeroCells
  simp
theorem heap_alloc_new (w : World) (o : Obj) : (w.alloc o).heap[w.heap.size]? = some o := by show (w.heap.push o)[w.heap.size]? = some o; exact Array.getElem?_push_size
theorem own_new0 (w : World) {e size : Nat} (cs : Array Value) (cap : Nat) (h : cs.size = cap * size) (hc : cap ≤ maxLen) : (w.alloc (.cells cs e)).ownsRow w.heap.size e size (.slice (some ⟨w.heap.size, 0, none⟩) 0 cap) 0 [] :=
  ⟨by rw [Nat.zero_mul]; rfl, .inr ⟨w.heap.size, cap, cs, rfl, Nat.le_refl _, heap_alloc_new w _, Nat.zero_le _, hc, h, by rw [Nat.zero_mul]; rfl⟩⟩
def GrowPost (w : World) (e : Ending) (w' : World) : Prop := ∃ v, e = .returned v ∧ w'.ownsRow w.heap.size 42 2 v 0 [] ∧ w.heap.size ≤ w'.heap.size ∧ Kept (fun _ => False) w w'
set_option maxRecDepth 100000 in
set_option maxHeartbeats 1000000 in
theorem grow_c (w : World) (n : Nat) (hn : n ≤ 1000) : Calls Try.prog 51 #[.slice none 0 0, .int .i64 n] w (GrowPost w) := by
  by_cases h0 : n = 0
  · subst h0
    go_enter Try.func51, Try.ntmps51
    go_wp2
    go_ret
    exact ⟨_, rfl, ⟨rfl, .inl ⟨rfl, rfl⟩⟩, Nat.le_refl _, Kept.refl _ _⟩
  · obtain ⟨i, z, hi, hz, hsz, hby, hzs⟩ := el23.info
    have hr := fun ty => Lib.run_append_nil_zeros (P := Try.prog) w 23 3 ty 42 i z .i64 .i64 Try.underlying23 Try.underlying3 hi hz n (by omega) (by omega) (by omega) (by rw [hby]; omega)
    have HOWN : Hid ((w.drew.alloc (.cells (Builtin.zeroCells z.cells n ++ Builtin.zeroCells z.cells (grownCap w n 0 42 - n)) 42)).ownsRow w.heap.size 42 2 (.slice (some ⟨w.heap.size, 0, none⟩) 0 (grownCap w n 0 42)) 0 []) := Lib.hid (by
      refine own_new0 w.drew _ (grownCap w n 0 42) ?_ (grownCap_le_maxLen w n 0 42 (by unfold maxLen; omega))
      rw [Array.size_append, zeroCells_size, zeroCells_size, hzs, ← Nat.add_mul]
      congr 1
      have := grownCap_ge w n 0 42
      omega)
    have HK : Hid (Kept (fun _ => False) w (w.drew.alloc (.cells (Builtin.zeroCells z.cells n ++ Builtin.zeroCells z.cells (grownCap w n 0 42 - n)) 42))) := Lib.hid ((Kept.refl _ _).drew.alloc _)
    have hg1 := grownCap_ge w n 0 42
    have hg2 := grownCap_le_maxLen w n 0 42 (by unfold maxLen; omega)
    have HR := Lib.hid hr
    clear hr hi hz hsz hby hzs
    generalize w.drew.alloc (.cells (Builtin.zeroCells z.cells n ++ Builtin.zeroCells z.cells (grownCap w n 0 42 - n)) 42) = w2 at HOWN HK HR
    generalize grownCap w n 0 42 = cg at HOWN HR hg1 hg2
    go_enter Try.func51, Try.ntmps51
    go_wp2_with (at_builtin; go_loud (refine Lib.wpList_append_run _ rfl (.tmp 20) (.tmp 21) 23 3 rfl (.slice none 0 0) (.int .i64 n) rfl rfl _ _ (HR.out _) ?_))
    go_ret
    exact ⟨_, rfl, HOWN.out, HK.out.size, HK.out⟩
/-- Two lists in a block. -/
structure TwoL (W : World) (D : Nat) (ls : List (List Sp)) : Prop where
  lt : D < W.heap.size
  at_ : ∀ j s, ls[j]? = some s → ∃ v, W.cell? ⟨D, j, none⟩ = some v ∧ Prs W v s ∧ Nz v
theorem TwoL.same {W W' : World} {D : Nat} {ls : List (List Sp)} (h : TwoL W D ls) (K : Kept (fun _ => False) W W') : TwoL W' D ls :=
  ⟨Nat.lt_of_lt_of_le h.lt K.size, fun j s hs => by
    obtain ⟨v, h1, h2, h3⟩ := h.at_ j s hs
    exact ⟨v, (K.cell (a := ⟨D, j, none⟩) h.lt (fun h => h)).trans h1, h2.same K, h3⟩⟩
theorem TwoL.new {W : World} {v0 v1 : Value} {s0 s1 : List Sp} (t : Nat) (h0 : Prs W v0 s0) (h1 : Prs W v1 s1) (z0 : Nz v0) (z1 : Nz v1) : TwoL (W.alloc (.cells #[v0, v1] t)) W.heap.size [s0, s1] := by
  refine ⟨by simp, fun j s hs => ?_⟩
  have K : Kept (fun _ => False) W (W.alloc (.cells #[v0, v1] t)) := (Kept.refl _ _).alloc _
  match j with
  | 0 => simp at hs; subst hs; exact ⟨v0, by rw [World.cell?_alloc_at _ _ _ _ rfl]; rfl, h0.same K, z0⟩
  | 1 => simp at hs; subst hs; exact ⟨v1, by rw [World.cell?_alloc_at _ _ _ _ rfl]; rfl, h1.same K, z1⟩
  | j + 2 => simp at hs
theorem flat_step {ls : List (List Sp)} {j : Nat} (h : j < ls.length) : (ls.take (j + 1)).flatten = (ls.take j).flatten ++ ls[j] := by
  rw [List.take_add_one, List.getElem?_eq_getElem h, List.flatten_append]
  simp
def CatPost (ls : List (List Sp)) (w : World) (e : Ending) (w' : World) : Prop := ∃ v, e = .returned v ∧ Prs w' v ls.flatten ∧ Nz v ∧ (∀ c, v.ownBlock = some c → w.heap.size ≤ c) ∧ Kept (fun _ => False) w w'
set_option maxRecDepth 100000 in
set_option maxHeartbeats 2000000 in
theorem concat_c {w : World} {D c : Nat} {ls : List (List Sp)} (h : TwoL w D ls) (hn : ls.length = 2) (hl : ∀ j, (ls.take j).flatten.length ≤ 500) : Calls Try.prog 34 #[.slice (some ⟨D, 0, none⟩) 2 c] w (CatPost ls w) := by
  have HQ := Lib.hid h
  have HN := Lib.hid hn
  have HL := Lib.hid hl
  clear h hn hl
  go_enter Try.func34, Try.ntmps34
  go_wp2
  go_loopw [3, 11] (fun s i wr => ∃ j : Nat, j ≤ 2 ∧ i = .int .i64 j ∧ s = .int .i64 ((ls.take j).flatten.length : Nat) ∧ w = wr) (fun _ i _ => match i with | .int _ x => (2 - x).toNat | _ => 0)
  case atStart => exact ⟨0, by omega, rfl, rfl, rfl⟩
  case round =>
    obtain ⟨j, hj, rfl, rfl, rfl⟩ := hrel
    by_cases hlt : j < 2
    · have hjl : j < ls.length := by have := HN.out; omega
      obtain ⟨v, hc, hv, -⟩ := HQ.out.at_ j ls[j] (List.getElem?_eq_getElem hjl)
      have hst := flat_step hjl
      have h5 := HL.out (j + 1)
      rw [hst, List.length_append] at h5
      have HST : Hid (((ls.take (j + 1)).flatten.length : Int) = ((ls.take j).flatten.length : Int) + (ls[j].length : Int)) := Lib.hid (by rw [hst, List.length_append]; omega)
      clear hst
      generalize ls[j] = s at hv h5 HST
      obtain ⟨pv, cv, rfl⟩ := hv.len
      clear hv
      generalize (ls.take j).flatten.length = a at h5 HST
      generalize s.length = b at h5 HST hc
      go_wp2
      go_roundw
      case rel => exact ⟨j + 1, by omega, by go_num, by rw [HST.out], trivial⟩
      case measure => simp; omega
    · obtain rfl : j = 2 := by omega
      have hft : (ls.take 2).flatten.length ≤ 500 := HL.out 2
      generalize (ls.take 2).flatten.length = a at hft
      have HG := Lib.hid (grow_c w a (by omega))
      go_wp2_with (go_at_call 51; fail)
      refine HG.out.mono ?_
      rintro e w1 ⟨v0, rfl, hown, hsz, K1⟩
      have HP : Hid (PS w w1 v0 0 []) := Lib.hid ⟨hown, hsz, K1⟩
      clear hown hsz K1 HG
      go_wp2
      go_loopw [6, 27] (fun s i wr => ∃ j : Nat, j ≤ 2 ∧ i = .int .i64 j ∧ PS w wr s (ls.take j).flatten.length (pc (ls.take j).flatten)) (fun _ i _ => match i with | .int _ x => (2 - x).toNat | _ => 0)
      case atStart => exact ⟨0, by omega, rfl, HP.out⟩
      case round =>
        obtain ⟨j, hj, rfl, hp⟩ := hrel
        have HPP := Lib.hid hp
        clear hp HP
        by_cases hlt : j < 2
        · have hjl : j < ls.length := by have := HN.out; omega
          obtain ⟨v, hc, hv, hz⟩ := (HQ.out.same HPP.out.2.2).at_ j ls[j] (List.getElem?_eq_getElem hjl)
          have HST := Lib.hid (flat_step hjl)
          have h5 := HL.out (j + 1)
          rw [flat_step hjl, List.length_append] at h5
          generalize ls[j] = s at hv h5 HST
          have HV := Lib.hid hv
          have HZ := Lib.hid hz
          obtain ⟨pv, cv, rfl⟩ := hv.len
          clear hv hz
          have HB : Hid ((ls.take j).flatten.length + s.length ≤ maxLen ∧ ((ls.take j).flatten.length + s.length) * 16 ≤ 140737488355328) := Lib.hid (by unfold maxLen; omega)
          go_wp2_with (at_builtin; go_loud (refine wpList_appP rfl (.tmp 31) (.tmp 32) rfl w.heap.size u6 (ls.take j).flatten.length (pc (ls.take j).flatten) rfl HPP.out.1 _ s HV.out HZ.out rfl HB.out.1 HB.out.2 HPP.out.2.1 ?_; rintro v2 w2 hown2 K2; have HP2 := Lib.hid (HPP.out.step hown2 K2); clear hown2 K2))
          have HP3 : Hid (PS w w2 v2 (ls.take (j + 1)).flatten.length (pc (ls.take (j + 1)).flatten)) := Lib.hid (by rw [HST.out, List.length_append, pc_append]; exact HP2.out)
          go_roundw
          case rel => exact ⟨j + 1, by omega, by go_num, HP3.out⟩
          case measure => simp; omega
        · obtain rfl : j = 2 := by omega
          have HE : Hid (ls.take 2 = ls) := Lib.hid (List.take_of_length_le (by have := HN.out; omega))
          rw [HE.out] at HPP
          go_wp2
          go_ret
          exact ⟨_, rfl, Prs.of_own HPP.out.1, Nz.own HPP.out.1, fun c hc => (ownsRow_block HPP.out.1 hc).1, HPP.out.2.2⟩
end Go.Proofs.Ytaedijppbghnaaa
