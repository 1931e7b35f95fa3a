/- spans and normal of the outright laws. -/
import Derived.Test.YtaedijppbghnaaaBkWorks
import Derived.Test.YtaedijppbghnaaaGeArr2
namespace Go.Proofs.Ytaedijppbghnaaa
open Go.RowKit
open Bk (Sp has chk vld)

def sp1 (x : Int × Int) : Sp := (x.1 % 200, min (x.1 % 200 + x.2 % 40) 199)
def spn (l : List (Int × Int)) : List Sp := (l.take 20).map sp1
theorem sp1_bd {x : Int × Int} (_h : 0 ≤ x.1 ∧ x.1 ≤ 255) (_h2 : 0 ≤ x.2 ∧ x.2 ≤ 255) : (0 ≤ (sp1 x).1 ∧ (sp1 x).1 ≤ (sp1 x).2) ∧ (sp1 x).2 ≤ 199 := by
  simp only [sp1]; omega
theorem spn_good {l : List (Int × Int)} (h : ∀ x ∈ l, (0 ≤ x.1 ∧ x.1 ≤ 255) ∧ 0 ≤ x.2 ∧ x.2 ≤ 255) : (∀ s ∈ spn l, (0 ≤ s.1 ∧ s.1 ≤ s.2) ∧ s.2 ≤ 199) ∧ Bk.Good (spn l) ∧ (spn l).length ≤ 20 ∧ chk (spn l) = 0 := by
  have h1 : ∀ s ∈ spn l, (0 ≤ s.1 ∧ s.1 ≤ s.2) ∧ s.2 ≤ 199 := fun s hs => by
    obtain ⟨x, hx, rfl⟩ := List.mem_map.1 hs
    have := h x (List.mem_of_mem_take hx)
    exact sp1_bd this.1 this.2
  have h2 : Bk.Good (spn l) := ⟨fun s hs => (h1 s hs).1.2, fun s hs => (h1 s hs).1.1, fun s hs => by have := (h1 s hs).2; omega⟩
  have h3 : (spn l).length ≤ 20 := by simp [spn, List.length_take]; omega
  exact ⟨h1, h2, h3, Bk.chk_good.2 ⟨by omega, h2⟩⟩
/-- A row's value: nil, or the head of a block, with room told. -/
def Rw (v : Value) (n : Nat) : Prop := (v = .slice none 0 0 ∧ n = 0) ∨ ∃ g cap, v = .slice (some ⟨g, 0, none⟩) n cap ∧ n ≤ cap ∧ cap ≤ maxLen
theorem Rw.own {w : World} {base e size : Nat} {v : Value} {n : Nat} {xs : List Value} (h : w.ownsRow base e size v n xs) : Rw v n := by
  rcases h.2 with h | ⟨g, cap, cur, rfl, -, -, h1, h2, -⟩
  · exact .inl h
  · exact .inr ⟨g, cap, rfl, h1, h2⟩
theorem Rw.nz {v : Value} {n : Nat} (h : Rw v n) : Nz v := by
  rcases h with ⟨rfl, -⟩ | ⟨g, cap, rfl, -⟩
  · exact Nz.nil
  · exact Nz.some _ _ _
def SpPost (l : List (Int × Int)) (w : World) (e : Ending) (w' : World) : Prop := ∃ v', e = .returned v' ∧ Prs w' v' (spn l) ∧ Rw v' (spn l).length ∧ Kept (fun _ => False) w w'
theorem spn_step {l : List (Int × Int)} {j : Nat} (h : j < l.length) : (l.take (j + 1)).map sp1 = (l.take j).map sp1 ++ [sp1 l[j]] := by
  rw [List.take_add_one, List.getElem?_eq_getElem h, List.map_append]
  rfl
set_option maxRecDepth 100000 in
set_option maxHeartbeats 2000000 in
theorem spans_c {w : World} {v : Value} {l : List (Int × Int)} (h : PrsK .u8 w v l) (h63 : l.length ≤ maxLen) (hcap : ∀ a n c, v = .slice a n c → n ≤ c ∧ c ≤ maxLen) (hz : Nz v) (hbd : ∀ x ∈ l, (0 ≤ x.1 ∧ x.1 ≤ 255) ∧ 0 ≤ x.2 ∧ x.2 ≤ 255) :
    Calls Try.prog 12 #[v] w (SpPost l w) := by
  have HQ := Lib.hid h
  have HBD := Lib.hid hbd
  have HZ := Lib.hid hz
  obtain ⟨p, cap, rfl⟩ := h.len
  obtain ⟨hc1, hc2⟩ := hcap _ _ _ rfl
  obtain ⟨n, hn⟩ : ∃ n : Nat, n = l.length := ⟨_, rfl⟩
  rw [← hn] at h63 hc1 HZ ⊢
  have HN := Lib.hid hn
  have hn63 : (n : Int) ≤ 9223372036854775807 := by unfold maxLen at h63; omega
  have HPS := Lib.hid (PS.start w)
  clear h hn hbd hcap hz
  obtain ⟨m, hm⟩ : ∃ m : Nat, m = min n 20 := ⟨_, rfl⟩
  have hmn : m ≤ n := by omega
  have hm20 : m ≤ 20 := by omega
  have hmc : m ≤ cap := by omega
  have hmi : min (n : Int) 20 = (m : Int) := by omega
  have HM := Lib.hid hm
  clear hm
  go_enter Try.func12, Try.ntmps12
  go_wp2
  go_loopw [3, 14] (fun s i wr => ∃ j : Nat, j ≤ m ∧ i = .int .i64 j ∧ PS w wr s j (pc ((l.take j).map sp1))) (fun _ i _ => match i with | .int _ x => (m - x).toNat | _ => 0)
  case atStart => exact ⟨0, Nat.zero_le _, rfl, HPS.out⟩
  case round =>
    obtain ⟨j, hj, rfl, hps⟩ := hrel
    have HP := Lib.hid hps
    clear hps
    by_cases hlt : j < m
    · have hjl : j < l.length := by have := HN.out; omega
      obtain ⟨b0, off, cap', hv, hb, hcell⟩ := (HQ.out.same HP.out.2.2).pos (by omega)
      rw [← HN.out] at hv
      injection hv with e1 e2 e3
      subst e1 e3
      have c0 := (hcell j l[j] (List.getElem?_eq_getElem hjl)).1
      have c1 := (hcell j l[j] (List.getElem?_eq_getElem hjl)).2
      have hx := HBD.out l[j] (List.getElem_mem hjl)
      have HS := Lib.hid (spn_step hjl)
      clear hcell
      generalize l[j] = x at c0 c1 hx HS
      obtain ⟨x0, x1⟩ := x
      simp only at c0 c1 hx
      have HSP : Hid (sp1 (x0, x1) = (x0 % 200, min (x0 % 200 + x1 % 40) 199)) := Lib.hid rfl
      obtain ⟨⟨hx1, hx2⟩, hx3, hx4⟩ := hx
      have HK1 : Hid (∀ q, PS w ((wr.alloc (.cells #[.int .u8 x0, .int .u8 x1] 54)).drewN q) u3 j (pc ((l.take j).map sp1)) ∧ .slice (some ⟨wr.heap.size + 1, 0, none⟩) 1 1 = Value.slice (some ⟨((wr.alloc (.cells #[.int .u8 x0, .int .u8 x1] 54)).drewN q).heap.size, 0, none⟩) 1 1) := Lib.hid fun q => by
        refine ⟨HP.out.step (v2 := u3) ?_ (((Kept.refl _ wr).alloc _).drewN q), by simp⟩
        exact HP.out.1.alloc _
      have HZB : Hid (j + 1 ≤ maxLen ∧ (j + 1) * 16 ≤ 140737488355328) := Lib.hid (by unfold maxLen; omega)
      have HON : Hid (∀ u ∈ [Value.int .i64 (x0 % 200), .int .i64 (min (x0 % 200 + x1 % 40) 199)], u.oneCell' = true) := Lib.hid (by intro u hu; simp at hu; rcases hu with rfl | rfl <;> rfl)
      go_wp2
      go_quiet (fail)
      go_wp2_with (at_builtin; go_loud (refine wpList_app2 el23 rfl (.tmp 26) (.tmp 33) rfl w.heap.size u3 j (pc ((l.take j).map sp1)) rfl (HK1.out _).1.1 (HK1.out _).2 rfl HON.out HZB.out.1 HZB.out.2 (HK1.out _).1.2.1 ?_; rintro g c w5 hown5 K5 -; have HP5 := Lib.hid ((HK1.out _).1.step hown5 K5); clear hown5 K5))
      have HP6 : Hid (PS w w5 (.slice (some ⟨g, 0, none⟩) (j + 1) c) (j + 1) (pc ((l.take (j + 1)).map sp1))) := Lib.hid (by rw [HS.out, pc_append, HSP.out]; exact HP5.out)
      go_roundw
      case rel => exact ⟨j + 1, by omega, by go_num, HP6.out⟩
      case measure => simp; omega
    · obtain rfl : m = j := by omega
      have HF : Hid (Prs wr u3 (spn l) ∧ Rw u3 (spn l).length) := Lib.hid (by
        have h1 : spn l = (l.take m).map sp1 := by
          unfold spn
          congr 1
          rw [HM.out, HN.out]
          by_cases h20 : 20 ≤ l.length
          · rw [Nat.min_eq_right h20]
          · rw [Nat.min_eq_left (by omega), List.take_of_length_le (by omega), List.take_of_length_le (Nat.le_refl _)]
        have hll : ((l.take m).map sp1).length = m := by rw [List.length_map, List.length_take]; have := HN.out; omega
        rw [h1]
        have := HP.out.1
        exact ⟨Prs.of_own (base := w.heap.size) (e := 42) (by rw [hll]; exact this), by rw [hll]; exact Rw.own this⟩)
      go_wp2
      go_ret
      exact ⟨_, rfl, HF.out.1, HF.out.2, HP.out.2.2⟩
end Go.Proofs.Ytaedijppbghnaaa
