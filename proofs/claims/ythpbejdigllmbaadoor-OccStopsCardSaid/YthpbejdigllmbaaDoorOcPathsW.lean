/- OcPathsW: texts for the statements of this seat: contracts of functions, walks, plain laws. Conditions: none. -/
import Derived.Test.YthpbejdigllmbaaDoorOcRef4
namespace Go.Proofs.YthpbejdigllmbaaDoor
open Go.RowKit

/-- A slice of numbers that came in. -/
theorem IntsK.of_args {k : IntKind} {w : World} {p : Option Addr} {cap L : Nat} {xs : List Int} (hL : xs.length = L)
    (h : ∀ i x, xs[i]? = some x → (Lit.int k x).wf = true ∧ ∃ b off, p = some ⟨b, off, none⟩ ∧ b < w.heap.size ∧ w.cell? ⟨b, off + i, none⟩ = some (.int k x)) : IntsK k w (.slice p L cap) xs := by
  subst hL
  cases xs with
  | nil => exact .inl ⟨p, cap, rfl, rfl⟩
  | cons x r =>
    obtain ⟨-, b, off, rfl, hb, -⟩ := h 0 x rfl
    refine .inr ⟨b, off, cap, rfl, hb, fun j y hy => ?_⟩
    obtain ⟨-, b', off', he, -, hc⟩ := h j y hy
    injection he with he
    injection he with h1 h2 h3
    subst h1 h2
    exact hc
set_option maxHeartbeats 1000000 in
set_option maxRecDepth 100000 in
theorem paths_c (p : Option Addr) (cap : Nat) (xs : List Int) (hm : xs.length ≤ maxLen) (w : World) (T : Tbl w) (hI : Ints w (.slice p xs.length cap) xs) :
    Calls Tryd.prog 7 #[.slice p xs.length cap] w fun e w' => e = .returned (.bool true) ∧ Kept (fun _ => False) w w' := by
  unfold maxLen at hm
  obtain ⟨n, hn⟩ : ∃ n, xs.length = n := ⟨_, rfl⟩
  rw [hn] at hm hI ⊢
  have HT := Lib.hid T
  have HI := Lib.hid hI
  have HN := Lib.hid hn
  have HW := Lib.hid (works_c w T)
  clear T hI hn
  by_cases hlt : 2000 < n
  · go_enter Tryd.func7, Tryd.ntmps7
    go_wp2_with fail
    refine HW.out.mono ?_
    rintro r w1 ⟨rfl, K⟩
    go_wp2
    go_ret
    exact ⟨rfl, K⟩
  · have A1 := Lib.hid (clone_c (.slice p n cap) xs w HI.out (by have := HN.out; omega))
    clear HW
    go_enter Tryd.func7, Tryd.ntmps7
    go_wp2_with fail
    refine A1.out.mono ?_
    rintro r w1 ⟨v, rfl, hown, K1⟩
    have T1 := HT.out.same K1
    have I1 : Ints w1 v xs := IntsK.of_own hown
    have hl : xs.length ≤ 4611686018427387904 := by have := HN.out; omega
    have A2 := Lib.hid (path_c v xs hl w1 T1 I1)
    have HI1 := Lib.hid I1
    have HK1 := Lib.hid K1
    clear T1 I1 K1 hown A1
    obtain ⟨⟨pa, pb, pc⟩, hp⟩ : ∃ q, pathF xs = q := ⟨_, rfl⟩
    obtain ⟨⟨aa, ab⟩, ha⟩ : ∃ q, attF xs = q := ⟨_, rfl⟩
    have HP := Lib.hid hp
    have HA := Lib.hid ha
    have HL := Lib.hid hl
    clear hp ha hl
    go_wp2_with fail
    refine A2.out.mono ?_
    rintro r w2 ⟨rfl, K2⟩
    rw [HP.out]
    have A3 := Lib.hid (rpath_c (.slice p n cap) xs HL.out w2 (HI.out.same (HK1.out.trans K2 (fun _ _ h => h))) _ HP.out)
    have A4 := Lib.hid (att_c v xs HL.out w2 (HT.out.same (HK1.out.trans K2 (fun _ _ h => h))) (HI1.out.same K2))
    have HK2 := Lib.hid (HK1.out.trans K2 (fun _ _ h => h))
    have HI2 := Lib.hid (HI1.out.same K2)
    clear K2 A2 HK1 HI1
    go_wp2_with fail
    refine A3.out.mono ?_
    rintro r w3 ⟨rfl, rfl⟩
    clear A3
    go_wp2_with fail
    refine A4.out.mono ?_
    rintro r w4 ⟨rfl, K4⟩
    rw [HA.out]
    have K4' := HK2.out.trans K4 (fun _ _ h => h)
    have A5 := Lib.hid (ratt_c (.slice p n cap) xs HL.out w4 (HI.out.same K4') _ HA.out)
    have A6 := Lib.hid (equal_c v (.slice p n cap) xs xs true w4 (HI2.out.same K4) (HI.out.same K4') HL.out (by simp))
    have HK4 := Lib.hid K4'
    clear K4 K4' A4 HK2 HI2
    go_wp2_with fail
    refine A5.out.mono ?_
    rintro r w5 ⟨rfl, rfl⟩
    clear A5
    go_wp2_with fail
    refine A6.out.mono ?_
    rintro r w6 ⟨rfl, nq, hw6⟩
    have K6 : Kept (fun _ => False) w w6 := hw6 ▸ HK4.out.drewN nq
    have A7 := Lib.hid (works_c w6 (HT.out.same K6))
    have HK6 := Lib.hid K6
    clear hw6 K6 A6 HK4
    go_wp2_with fail
    refine A7.out.mono ?_
    rintro r w7 ⟨rfl, K7⟩
    go_wp2
    go_ret
    exact ⟨rfl, HK6.out.trans K7 (fun _ _ h => h)⟩
end Go.Proofs.YthpbejdigllmbaaDoor
