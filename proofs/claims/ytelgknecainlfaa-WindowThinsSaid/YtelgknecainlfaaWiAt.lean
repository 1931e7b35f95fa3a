/- WiAt: texts for the statements of this seat: contracts of functions, walks, plain laws. Conditions: none. -/
import Derived.Test.YtelgknecainlfaaWiWith3
set_option linter.all false
/- How many runs are under way at a time: the reference's at, the law's under. -/
namespace Go.Proofs.Ytelgknecainlfaa
open Go.RowKit
open Wi (vld Srt chk longE)

def runB (t : Int) (p : Int × Int) : Bool := decide (p.1 ≤ t) && decide (t < p.2)
def atF (f g : List Int) (t : Int) : Nat := (f.zip g).countP (runB t)
theorem zip_at {f g : List Int} {j : Nat} {x y : Int} (hx : f[j]? = some x) (hy : g[j]? = some y) : (f.zip g)[j]? = some (x, y) := by
  rw [List.getElem?_zip_eq_some]; exact ⟨hx, hy⟩
theorem atF_snoc (t : Int) {f g : List Int} {j : Nat} {x y : Int} (hx : f[j]? = some x) (hy : g[j]? = some y) : ((f.zip g).take (j + 1)).countP (runB t) = ((f.zip g).take j).countP (runB t) + if runB t (x, y) = true then 1 else 0 := by
  rw [List.take_add_one, zip_at hx hy, List.countP_append]
  simp [List.countP_cons]
theorem atF_le (f g : List Int) (t : Int) : atF f g t ≤ f.length := by
  unfold atF
  exact Nat.le_trans (List.countP_le_length) (by rw [List.length_zip]; exact Nat.min_le_left _ _)
set_option maxRecDepth 100000 in
set_option maxHeartbeats 4000000 in
theorem at_c {w : World} {v u : Value} {f g : List Int} (h : Ints w v f) (k : Ints w u g) (hl : f.length ≤ 100000) (hfg : f.length = g.length) (t : Int) : Calls Try.prog 44 #[v, u, .int .i64 t] w fun e w' => e = .returned (.int .i64 (atF f g t)) ∧ w = w' := by
  have HQ := Lib.hid h
  have HP := Lib.hid k
  obtain ⟨aa, cap, rfl⟩ := h.len
  obtain ⟨ab, cbp, rfl⟩ := k.len
  rw [← hfg] at HP ⊢
  obtain ⟨n, hn⟩ : ∃ n : Nat, n = f.length := ⟨_, rfl⟩
  have hng := hn.trans hfg
  rw [← hn] at hl HQ HP ⊢
  have HN := Lib.hid hn
  have HM := Lib.hid hng
  clear h k hn hng hfg
  have HST : Hid (∀ j x y, f[j]? = some x → g[j]? = some y → ((f.zip g).take (j + 1)).countP (runB t) = ((f.zip g).take j).countP (runB t) + if runB t (x, y) = true then 1 else 0) := Lib.hid fun j x y hx hy => atF_snoc t hx hy
  go_enter Try.func44, Try.ntmps44
  go_wp2
  go_loopw [7, 8] (fun cv jv wr => ∃ (j c : Nat), j ≤ n ∧ jv = .int .i64 j ∧ cv = .int .i64 c ∧ c = ((f.zip g).take j).countP (runB t) ∧ c ≤ j ∧ w = wr) (fun _ i _ => match i with | .int _ x => (n - x).toNat | _ => 0)
  case atStart => exact ⟨0, 0, Nat.zero_le _, rfl, rfl, rfl, Nat.zero_le _, rfl⟩
  case round =>
    obtain ⟨j, c, hj, rfl, rfl, hcc, hcj, rfl⟩ := hrel
    have HCC := Lib.hid hcc
    clear hcc
    by_cases hlt : j < n
    · have hjf : j < f.length := by have := HN.out; omega
      have hjg : j < g.length := by have := HM.out; omega
      obtain ⟨b0, off, cap', hv, hb0, hcell⟩ := HQ.out.pos (by have := HN.out; omega)
      rw [← HN.out] at hv
      injection hv with e1 e2 e3
      subst e1 e3
      have c0 := IntsK.at hcell hjf
      clear hcell
      obtain ⟨b1, of1, ca1, hv, hb1, hcell⟩ := HP.out.pos (by have := HM.out; omega)
      rw [← HM.out] at hv
      injection hv with e1 e2 e3
      subst e1 e3
      have c1 := IntsK.at hcell hjg
      clear hcell
      have HS := Lib.hid (HST.out j _ _ (get_of hjf) (get_of hjg))
      generalize f[j] = x at c0 HS
      generalize g[j] = y at c1 HS
      by_cases h1 : x ≤ t
      · by_cases h2 : t < y
        · have HN2 : Hid (c + 1 = ((f.zip g).take (j + 1)).countP (runB t)) := Lib.hid (by rw [HS.out, ← HCC.out, if_pos (by simp [runB, h1, h2])])
          go_wp2
          go_roundw
          case rel => exact ⟨j + 1, c + 1, by omega, by go_num, by go_num, HN2.out, by omega, trivial⟩
          case measure => simp; omega
        · have HN2 : Hid (c = ((f.zip g).take (j + 1)).countP (runB t)) := Lib.hid (by rw [HS.out, ← HCC.out, if_neg (by simp [runB]; omega)]; rfl)
          go_wp2
          go_roundw
          case rel => exact ⟨j + 1, c, by omega, by go_num, rfl, HN2.out, by omega, trivial⟩
          case measure => simp; omega
      · have HN2 : Hid (c = ((f.zip g).take (j + 1)).countP (runB t)) := Lib.hid (by rw [HS.out, ← HCC.out, if_neg (by simp [runB]; omega)]; rfl)
        go_wp2
        go_roundw
        case rel => exact ⟨j + 1, c, by omega, by go_num, rfl, HN2.out, by omega, trivial⟩
        case measure => simp; omega
    · have HF : Hid (c = atF f g t) := Lib.hid (by unfold atF; rw [HCC.out, List.take_of_length_le (by rw [List.length_zip]; have := HN.out; omega)])
      go_wp2
      go_ret
      exact ⟨by rw [← HF.out]; rfl, rfl⟩
set_option maxRecDepth 100000 in
set_option maxHeartbeats 4000000 in
theorem under_c {w : World} {v u : Value} {f g : List Int} (h : Ints w v f) (k : Ints w u g) (hl : f.length ≤ 100000) (hfg : f.length = g.length) (t : Int) : Calls Try.prog 27 #[v, u, .int .i64 t] w fun e w' => e = .returned (.int .i64 (atF f g t)) ∧ w = w' := by
  have HQ := Lib.hid h
  have HP := Lib.hid k
  obtain ⟨aa, cap, rfl⟩ := h.len
  obtain ⟨ab, cbp, rfl⟩ := k.len
  rw [← hfg] at HP ⊢
  obtain ⟨n, hn⟩ : ∃ n : Nat, n = f.length := ⟨_, rfl⟩
  have hng := hn.trans hfg
  rw [← hn] at hl HQ HP ⊢
  have HN := Lib.hid hn
  have HM := Lib.hid hng
  clear h k hn hng hfg
  have HST : Hid (∀ j x y, f[j]? = some x → g[j]? = some y → ((f.zip g).take (j + 1)).countP (runB t) = ((f.zip g).take j).countP (runB t) + if runB t (x, y) = true then 1 else 0) := Lib.hid fun j x y hx hy => atF_snoc t hx hy
  go_enter Try.func27, Try.ntmps27
  go_wp2
  go_loopw [7, 8] (fun cv jv wr => ∃ (j c : Nat), j ≤ n ∧ jv = .int .i64 j ∧ cv = .int .i64 c ∧ c = ((f.zip g).take j).countP (runB t) ∧ c ≤ j ∧ w = wr) (fun _ i _ => match i with | .int _ x => (n - x).toNat | _ => 0)
  case atStart => exact ⟨0, 0, Nat.zero_le _, rfl, rfl, rfl, Nat.zero_le _, rfl⟩
  case round =>
    obtain ⟨j, c, hj, rfl, rfl, hcc, hcj, rfl⟩ := hrel
    have HCC := Lib.hid hcc
    clear hcc
    by_cases hlt : j < n
    · have hjf : j < f.length := by have := HN.out; omega
      have hjg : j < g.length := by have := HM.out; omega
      obtain ⟨b0, off, cap', hv, hb0, hcell⟩ := HQ.out.pos (by have := HN.out; omega)
      rw [← HN.out] at hv
      injection hv with e1 e2 e3
      subst e1 e3
      have c0 := IntsK.at hcell hjf
      clear hcell
      obtain ⟨b1, of1, ca1, hv, hb1, hcell⟩ := HP.out.pos (by have := HM.out; omega)
      rw [← HM.out] at hv
      injection hv with e1 e2 e3
      subst e1 e3
      have c1 := IntsK.at hcell hjg
      clear hcell
      have HS := Lib.hid (HST.out j _ _ (get_of hjf) (get_of hjg))
      generalize f[j] = x at c0 HS
      generalize g[j] = y at c1 HS
      by_cases h1 : x ≤ t
      · by_cases h2 : t < y
        · have HN2 : Hid (c + 1 = ((f.zip g).take (j + 1)).countP (runB t)) := Lib.hid (by rw [HS.out, ← HCC.out, if_pos (by simp [runB, h1, h2])])
          go_wp2
          go_roundw
          case rel => exact ⟨j + 1, c + 1, by omega, by go_num, by go_num, HN2.out, by omega, trivial⟩
          case measure => simp; omega
        · have HN2 : Hid (c = ((f.zip g).take (j + 1)).countP (runB t)) := Lib.hid (by rw [HS.out, ← HCC.out, if_neg (by simp [runB]; omega)]; rfl)
          go_wp2
          go_roundw
          case rel => exact ⟨j + 1, c, by omega, by go_num, rfl, HN2.out, by omega, trivial⟩
          case measure => simp; omega
      · have HN2 : Hid (c = ((f.zip g).take (j + 1)).countP (runB t)) := Lib.hid (by rw [HS.out, ← HCC.out, if_neg (by simp [runB]; omega)]; rfl)
        go_wp2
        go_roundw
        case rel => exact ⟨j + 1, c, by omega, by go_num, rfl, HN2.out, by omega, trivial⟩
        case measure => simp; omega
    · have HF : Hid (c = atF f g t) := Lib.hid (by unfold atF; rw [HCC.out, List.take_of_length_le (by rw [List.length_zip]; have := HN.out; omega)])
      go_wp2
      go_ret
      exact ⟨by rw [← HF.out]; rfl, rfl⟩
end Go.Proofs.Ytelgknecainlfaa
