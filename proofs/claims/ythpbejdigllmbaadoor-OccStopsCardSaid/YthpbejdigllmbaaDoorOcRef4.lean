/- OcRef4: texts for the statements of this seat: contracts of functions, walks, plain laws. Conditions: none. -/
import Derived.Test.YthpbejdigllmbaaDoorOcRef3
namespace Go.Proofs.YthpbejdigllmbaaDoor
open Go.RowKit

theorem lastOf_nil : lastOf [] = 0 := rfl
set_option maxHeartbeats 1000000 in
theorem rpath_c (v : Value) (xs : List Int) (hm : xs.length ≤ 4611686018427387904) (w : World) (hI : Ints w v xs) (r : Int × Int × Int) (hr : pathF xs = r) :
    Calls Tryd.prog 29 #[v] w fun e w' => e = .returned (.tuple #[.int .i64 r.1, .int .i64 r.2.1, .int .i64 r.2.2]) ∧ w = w' := by
  have hcell : ∀ k, k < xs.length → ∃ x b off cap, xs[k]? = some x ∧ v = .slice (some ⟨b, off, none⟩) xs.length cap ∧ w.cell? ⟨b, off + k, none⟩ = some (.int .i64 x) := fun k hk => by
    obtain ⟨b, off, cap, hv, hb, hc⟩ := hI.pos (by omega)
    exact ⟨_, b, off, cap, List.getElem?_eq_getElem hk, hv, hc k _ (List.getElem?_eq_getElem hk)⟩
  obtain ⟨a, cap, rfl⟩ := hI.len
  obtain ⟨n, hn⟩ : ∃ n, xs.length = n := ⟨_, rfl⟩
  have HN := Lib.hid hn
  rw [hn] at hm ⊢
  have HC := Lib.hid hcell
  have HR := Lib.hid hr
  clear hcell hI hn hr
  go_enter Tryd.func29, Tryd.ntmps29
  go_wp2
  go_loop [5] (fun i => ∃ k : Nat, k ≤ n ∧ i = .int .i64 k ∧ ∀ j, j < k → ∀ x, xs[j]? = some x → isSp x = true) (fun i => n - (intOf i).toNat)
  case atStart => exact ⟨0, by omega, rfl, fun j hj => by omega⟩
  case round =>
    obtain ⟨k, hk, rfl, heq⟩ := hrel
    have HE := Lib.hid heq
    clear heq
    by_cases hlt : k < n
    · obtain ⟨x, b, off, cap', hx, hv, hc⟩ := HC.out k (by have := HN.out; omega)
      injection hv with hv1 hv2 hv3
      subst hv1 hv3
      clear hv2
      have HX := Lib.hid hx
      clear hx
      cases hs : isSp x with
      | true =>
        have hb : 1 ≤ x ∧ x < 7 := by simpa [isSp] using hs
        have c1 : ¬ x < 1 := by omega
        have c2 : ¬ 6 < x := by omega
        have HT := Lib.hid hs
        clear hs hb
        go_wp2
        go_round
        case rel => exact ⟨k + 1, by omega, by go_num, fun j hj y hy => by
          by_cases e : j = k
          · rw [e, HX.out] at hy; injection hy with hy; rw [← hy]; exact HT.out
          · exact HE.out j (by omega) y hy⟩
        case measure => simp [intOf]; omega
      | false =>
        have hF : Hid (r = (0, 0, 3)) := Lib.hid (by
          rw [← HR.out]
          unfold pathF
          rw [if_neg]
          unfold allSp
          rw [Bool.not_eq_true, List.all_eq_false]
          exact ⟨x, List.mem_of_getElem? HX.out, by rw [hs]; decide⟩)
        by_cases c1 : x < 1
        · clear hs
          go_wp2
          go_ret3
          exact ⟨by rw [hF.out]; rfl, rfl⟩
        · have c2 : 6 < x := by
            simp [isSp] at hs; omega
          clear hs
          go_wp2
          go_ret3
          exact ⟨by rw [hF.out]; rfl, rfl⟩
    · have hall : allSp xs = true := by
        unfold allSp
        rw [List.all_eq_true]
        intro x hx
        obtain ⟨j, hj⟩ := List.getElem?_of_mem hx
        have := (List.getElem?_eq_some_iff.1 hj).1
        exact HE.out j (by have := HN.out; omega) x hj
      have HF : Hid (r = (lastOf (fol 0 xs), ((fol 0 xs).length : Int), 0)) := Lib.hid (by rw [← HR.out]; unfold pathF; rw [hall]; rfl)
      have HA := Lib.hid hall
      clear hall HE
      go_wp2
      go_loop [6, 7] (fun s i => ∃ k : Nat, k ≤ n ∧ i = .int .i64 k ∧ ∃ st : Int, s = .int .i64 st ∧ isSt st = true ∧ ∃ pre, fol 0 xs = pre ++ fol st (xs.drop k) ∧ pre.length = k ∧ lastOf pre = st) (fun _ i => n - (intOf i).toNat)
      case atStart => exact ⟨0, by omega, rfl, 0, rfl, rfl, [], by simp, rfl, rfl⟩
      case round =>
        clear hlt hk
        obtain ⟨k, hk, rfl, st, rfl, hst, pre, hp, hpl, hla⟩ := hrel
        have HP := Lib.hid (And.intro hp (And.intro hpl hla))
        clear hp hpl hla
        by_cases hlt : k < n
        · obtain ⟨x, b, off, cap', hx, hv, hc⟩ := HC.out k (by have := HN.out; omega)
          injection hv with hv1 hv2 hv3
          subst hv1 hv3
          clear hv2
          have hxs : isSp x = true := List.all_eq_true.1 HA.out x (List.mem_of_getElem? hx)
          by_cases hl : lead st x = -1
          · have HL := Lib.hid (rlead_b _ st x · hst hxs hl)
            have HX := Lib.hid (fol_stop (s := st) hx hl)
            clear hl hx hst hxs
            go_wp2_with (go_at_call 38; refine (HL.out _).mono ?_; rintro e w' ⟨rfl, rfl⟩)
            go_ret3
            refine ⟨?_, rfl⟩
            have h1 : fol 0 xs = pre := by rw [HP.out.1, HX.out, List.append_nil]
            rw [HF.out, h1, HP.out.2.1, HP.out.2.2]
            rfl
          · have HL := Lib.hid (rlead_b _ st x · hst hxs rfl)
            have HX := Lib.hid (fol_on (s := st) hx hl)
            have hst2 := lead_st hst hxs hl
            have hb := lead_bd hst hxs
            have hb0 : ¬ lead st x < 0 := by omega
            clear hl hx hst hxs hb
            generalize lead st x = st2 at HL HX hst2 hb0
            go_wp2_with (go_at_call 38; refine (HL.out _).mono ?_; rintro e w' ⟨rfl, rfl⟩)
            go_round
            case rel => exact ⟨k + 1, by omega, by go_num, st2, rfl, hst2, pre ++ [(x, st2)], by rw [HP.out.1, HX.out]; simp, by simp [HP.out.2.1], lastOf_snoc _ _⟩
            case measure => simp [intOf]; omega
        · obtain rfl : n = k := by omega
          clear hst hlt hk
          go_wp2
          go_ret3
          refine ⟨?_, rfl⟩
          have h1 : fol 0 xs = pre := by rw [HP.out.1, fol_end (by have := HN.out; omega), List.append_nil]
          rw [HF.out, h1, HP.out.2.1, HP.out.2.2]
          rfl
theorem take_count (xs : List Int) (k : Nat) (x : Int) (h : xs[k]? = some x) : (xs.take (k + 1)).count 3 = (xs.take k).count 3 + if x = 3 then 1 else 0 := by
  obtain ⟨hk, rfl⟩ := List.getElem?_eq_some_iff.1 h
  rw [List.take_succ_eq_append_getElem hk, List.count_append, List.count_singleton]
  by_cases e : xs[k] = 3 <;> simp [e]
set_option maxHeartbeats 1000000 in
theorem ratt_c (v : Value) (xs : List Int) (hm : xs.length ≤ 4611686018427387904) (w : World) (hI : Ints w v xs) (r : Int × Int) (hr : attF xs = r) :
    Calls Tryd.prog 31 #[v] w fun e w' => e = .returned (.tuple #[.int .i64 r.1, .int .i64 r.2]) ∧ w = w' := by
  cases hs : allSp xs with
  | false =>
    have hp : pathF xs = (0, 0, 3) := by unfold pathF; rw [hs]; rfl
    have ha : attF xs = (0, 3) := by unfold attF; rw [hs]; rfl
    have HC := Lib.hid (rpath_c v xs hm w hI _ hp)
    obtain ⟨a, cap, rfl⟩ := hI.len
    subst hr
    rw [ha]
    clear hs hp ha hI
    go_enter Tryd.func31, Tryd.ntmps31
    go_wp2_with fail
    refine HC.out.mono ?_
    rintro e w1 ⟨rfl, rfl⟩
    go_wp2
    go_ret2
    exact ⟨rfl, rfl⟩
  | true =>
    have hp : pathF xs = (lastOf (fol 0 xs), ((fol 0 xs).length : Int), 0) := by unfold pathF; rw [hs]; rfl
    have ha : attF xs = ((((xs.take (fol 0 xs).length).count 3 : Nat) : Int), 0) := by unfold attF; rw [hs, count3_fol]; rfl
    have HC := Lib.hid (rpath_c v xs hm w hI _ hp)
    have hfl := fol_length 0 xs
    have hcell : ∀ k, k < xs.length → ∃ x b off cap, xs[k]? = some x ∧ v = .slice (some ⟨b, off, none⟩) xs.length cap ∧ w.cell? ⟨b, off + k, none⟩ = some (.int .i64 x) := fun k hk => by
      obtain ⟨b, off, cap, hv, hb, hc⟩ := hI.pos (by omega)
      exact ⟨_, b, off, cap, List.getElem?_eq_getElem hk, hv, hc k _ (List.getElem?_eq_getElem hk)⟩
    obtain ⟨a, cap, rfl⟩ := hI.len
    subst hr
    rw [ha]
    clear hs hp ha hI
    obtain ⟨n, hn⟩ : ∃ n, xs.length = n := ⟨_, rfl⟩
    have HN := Lib.hid hn
    have HCE := Lib.hid hcell
    rw [hn] at hm hfl HC ⊢
    clear hcell hn
    generalize lastOf (fol 0 xs) = la at HC
    generalize (fol 0 xs).length = m at HC hfl
    have HRES : Hid (∀ c : Int, c = ((xs.take m).count 3 : Nat) → Ending.returned (.tuple #[.int .i64 c, .int .i64 0]) = Ending.returned (.tuple #[.int .i64 ((xs.take m).count 3 : Nat), .int .i64 0])) := Lib.hid (fun c h => by rw [h])
    go_enter Tryd.func31, Tryd.ntmps31
    go_wp2_with fail
    refine HC.out.mono ?_
    rintro e w1 ⟨rfl, rfl⟩
    clear HC
    go_wp2
    go_loop [7, 8] (fun c i => ∃ k : Nat, k ≤ m ∧ i = .int .i64 k ∧ ∃ q : Nat, c = .int .i64 q ∧ q = (xs.take k).count 3 ∧ q ≤ k) (fun _ i => m - (intOf i).toNat)
    case atStart => exact ⟨0, by omega, rfl, 0, rfl, by simp, by omega⟩
    case round =>
      obtain ⟨k, hk, rfl, q, rfl, hq, hqk⟩ := hrel
      have HQ := Lib.hid hq
      clear hq
      by_cases hlt : k < m
      · obtain ⟨x, b, off, cap', hx, hv, hc⟩ := HCE.out k (by have := HN.out; omega)
        have hn2 := HN.out
        rw [hn2] at hv
        injection hv with hv1 hv2 hv3
        subst hv1 hv3
        have HX := Lib.hid (take_count xs k x hx)
        have hkn : k < n := by omega
        clear hv2 hx hn2
        by_cases h3 : x = 3
        · subst h3
          go_wp2
          go_round
          case rel => exact ⟨k + 1, by omega, by go_num, q + 1, by go_num, by rw [HX.out, HQ.out]; rfl, by omega⟩
          case measure => simp [intOf]; omega
        · have hb : (x == 3) = false := by simpa using h3
          have H3 := Lib.hid h3
          clear h3
          go_wp2
          go_round
          case rel => exact ⟨k + 1, by omega, by go_num, q, rfl, by rw [HX.out, HQ.out, if_neg H3.out]; rfl, by omega⟩
          case measure => simp [intOf]; omega
      · obtain rfl : m = k := by omega
        go_wp2
        go_ret2
        exact ⟨HRES.out _ (by rw [HQ.out]), rfl⟩
end Go.Proofs.YthpbejdigllmbaaDoor
