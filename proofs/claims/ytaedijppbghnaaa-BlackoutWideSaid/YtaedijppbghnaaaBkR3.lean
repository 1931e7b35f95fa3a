/- The reference's borders. -/
import Derived.Test.YtaedijppbghnaaaBkR2
namespace Go.Proofs.Ytaedijppbghnaaa
open Go.RowKit
open Bk (Sp ins bords)
theorem ins_len (t : Int) (l : List Int) : (ins t l).length ≤ l.length + 1 := by
  induction l with
  | nil => simp [ins]
  | cons x r ih => rw [ins]; split; · simp; omega
                   · split <;> simp
theorem bords_snoc {l : List Sp} {j : Nat} (hj : j < l.length) : bords (l.take (j + 1)) = ins (l[j].2 + 1) (ins l[j].1 (bords (l.take j))) := by
  rw [List.take_add_one, List.getElem?_eq_getElem hj]
  unfold bords
  rw [List.foldl_append]
  rfl
theorem bords_len (l : List Sp) : (bords l).length ≤ 2 * l.length := by
  have key : ∀ (l : List Sp) (o : List Int), (l.foldl (fun o s => ins (s.2 + 1) (ins s.1 o)) o).length ≤ o.length + 2 * l.length := by
    intro l
    induction l with
    | nil => intro o; simp
    | cons s l ih =>
      intro o
      have := ih (ins (s.2 + 1) (ins s.1 o))
      have := ins_len (s.2 + 1) (ins s.1 o)
      have := ins_len s.1 o
      simp only [List.foldl_cons, List.length_cons]
      omega
  have := key l []
  simpa [bords] using this
def BordPost (l : List Sp) (w : World) (e : Ending) (w' : World) : Prop := ∃ v', e = .returned v' ∧ IntsN w' v' (bords l) ∧ Kept (fun _ => False) w w'
set_option maxHeartbeats 1000000 in
theorem rbords_c {w : World} {v : Value} {l : List Sp} (h : Prs w v l) (hl : l.length ≤ 400) (hg : Bk.Good l) : Calls Try.prog 54 #[v] w (BordPost l w) := by
  have HQ := Lib.hid h
  have HG := Lib.hid hg
  obtain ⟨a, cap, rfl⟩ := h.len
  obtain ⟨n, hn⟩ : ∃ n : Nat, n = l.length := ⟨_, rfl⟩
  rw [← hn] at hl ⊢
  have HN := Lib.hid hn
  have HADD : Hid (∀ W v j t, IntsN W v (bords (l.take j)) → Calls Try.prog 58 #[v, .int .i64 t] W (AddPost v (bords (l.take j)) t W)) := Lib.hid fun W v j t h =>
    add_c t h (by have := bords_len (l.take j); have : (l.take j).length ≤ l.length := by simp [List.length_take]; omega
                  omega) (Bk.bords_law _).1
  have HADD2 : Hid (∀ W v j t u, IntsN W v (ins u (bords (l.take j))) → Calls Try.prog 58 #[v, .int .i64 t] W (AddPost v (ins u (bords (l.take j))) t W)) := Lib.hid fun W v j t u h =>
    add_c t h (by have := bords_len (l.take j); have : (l.take j).length ≤ l.length := by simp [List.length_take]; omega
                  have := ins_len u (bords (l.take j)); omega) (Bk.ins_sorted (Bk.bords_law _).1)
  clear h hn hg
  go_enter Try.func54, Try.ntmps54
  go_wp2
  go_loopw [3, 4] (fun s i wr => ∃ j : Nat, j ≤ n ∧ i = .int .i64 j ∧ IntsN wr s (bords (l.take j)) ∧ Kept (fun _ => False) w wr) (fun _ i _ => match i with | .int _ x => (n - x).toNat | _ => 0)
  case atStart => exact ⟨0, Nat.zero_le _, rfl, .inl ⟨rfl, rfl⟩, Kept.refl _ _⟩
  case round =>
    obtain ⟨j, hj, rfl, hI, K⟩ := hrel
    have HI := Lib.hid hI
    have HK := Lib.hid K
    clear hI K
    by_cases hlt : j < n
    · have hjl : j < l.length := by have := HN.out; omega
      obtain ⟨b0, off, cap', hv, hb, hcell⟩ := (HQ.out.same HK.out).pos (by omega)
      injection hv with e1 e2 e3
      subst e1 e3
      have c0 := (Prs.at hcell hjl).1
      have hb1 := HG.out.hi l[j] (List.getElem_mem hjl)
      have hb2 := HG.out.lo l[j] (List.getElem_mem hjl)
      have hb3 := HG.out.le l[j] (List.getElem_mem hjl)
      have HS := Lib.hid (bords_snoc hjl)
      have HC1 : Hid (∀ W, Kept (fun _ => False) wr W → W.cell? ⟨b0, off + j * 2 + 1, none⟩ = some (.int .i64 l[j].2)) := Lib.hid fun W K => (K.cell (a := ⟨b0, off + j * 2 + 1, none⟩) hb (fun h => h)).trans (Prs.at hcell hjl).2
      clear hcell
      generalize l[j] = x at c0 HC1 hb1 hb2 hb3 HS
      obtain ⟨x0, x1⟩ := x
      simp only at c0 hb1 hb2 hb3
      go_wp2_with (go_at_call 58; fail)
      refine (HADD.out _ _ j x0 HI.out).mono ?_
      rintro e w2 ⟨v2, rfl, hI2, -, K2⟩
      have c1 := HC1.out w2 K2
      have HI2 := Lib.hid hI2
      have HK2 := Lib.hid K2
      clear hI2 K2
      go_wp2_with (go_at_call 58; fail)
      refine (HADD2.out _ _ j (x1 + 1) x0 HI2.out).mono ?_
      rintro e w3 ⟨v3, rfl, hI3, -, K3⟩
      have HI3 : Hid (IntsN w3 v3 (bords (l.take (j + 1)))) := Lib.hid (by rw [HS.out]; exact hI3)
      have HK3 := Lib.hid ((HK.out.trans HK2.out (fun _ _ h => h)).trans K3 (fun _ _ h => h))
      clear hI3 K3
      go_wp2
      go_roundw
      case rel => exact ⟨j + 1, by omega, by go_num, HI3.out, HK3.out⟩
      case measure => simp; omega
    · obtain rfl : n = j := by omega
      have HE : Hid (l.take n = l) := Lib.hid (List.take_of_length_le (by have := HN.out; omega))
      rw [HE.out] at HI
      go_wp2
      go_ret
      exact ⟨_, rfl, HI.out, HK.out⟩
end Go.Proofs.Ytaedijppbghnaaa
