/- OcW2: texts for the statements of this seat: contracts of functions, walks, plain laws. Conditions: none. -/
import Derived.Test.YthpbejdigllmbaaDoorOcW1
import Derived.Test.YthpbejdigllmbaaDoorArRange
namespace Go.Proofs.YthpbejdigllmbaaDoor
open Go.RowKit Go.Shelf

attribute [local go_sem] Oper.semAt_some

theorem notStep_c (n : Int) (w : World) : Calls Tryd.prog 40 #[.int .i64 n] w fun e w' => e = .returned (.bool (!isSp n)) ∧ w = w' := by
  have H := Lib.hid (isStep_c n)
  go_enter Tryd.func40, Tryd.ntmps40
  go_wp2_with (go_at_call 41; refine (H.out _).mono ?_; rintro e w' ⟨rfl, rfl⟩)
  go_ret
  exact ⟨rfl, rfl⟩
theorem notStep_b (b : Bool) (n : Int) (w : World) (h : isSp n = !b) : Calls Tryd.prog 40 #[.int .i64 n] w fun e w' => e = .returned (.bool b) ∧ w = w' := by
  have := notStep_c n w
  rw [h, Bool.not_not] at this
  exact this

def IdxPost (b : Bool) (w : World) (e : Ending) (w' : World) : Prop := ∃ r : Int, e = .returned (.int .i64 r) ∧ decide (r ≥ 0) = b ∧ -1 ≤ r ∧ r ≤ 4611686018427387904 ∧ w = w'
set_option maxHeartbeats 400000 in
theorem indexf_c (v : Value) (xs : List Int) (w : World) (h1 : Ints w v xs) (hm : xs.length ≤ 4611686018427387904) :
    Calls Tryd.prog 49 #[v, .func (.func 40) #[] #[]] w (IdxPost (!allSp xs) w) := by
  have hcell : ∀ k, k < xs.length → ∃ x b off cap, xs[k]? = some x ∧ v = .slice (some ⟨b, off, none⟩) xs.length cap ∧ w.cell? ⟨b, off + k, none⟩ = some (.int .i64 x) := fun k hk => by
    obtain ⟨b, off, cap, hv, hb, hc⟩ := h1.pos (by omega)
    exact ⟨_, b, off, cap, List.getElem?_eq_getElem hk, hv, hc k _ (List.getElem?_eq_getElem hk)⟩
  obtain ⟨a, cap, rfl⟩ := h1.len
  obtain ⟨n, hn⟩ : ∃ n, xs.length = n := ⟨_, rfl⟩
  have HN := Lib.hid hn
  rw [hn] at hm ⊢
  have HC := Lib.hid hcell
  clear hcell h1 hn
  go_enter Tryd.func49, Tryd.ntmps49
  go_wp2
  go_loop [8] (fun i => ∃ k : Nat, k ≤ n ∧ i = .int .i64 k ∧ ∀ j, j < k → ∀ x, xs[j]? = some x → isSp x = true) (fun i => n - (intOf i).toNat)
  case atStart => exact ⟨0, by omega, rfl, fun j hj => by omega⟩
  case round =>
    obtain ⟨k, hk, rfl, heq⟩ := hrel
    have HE := Lib.hid heq
    clear heq
    by_cases hlt : k < n
    · obtain ⟨x, b, off, cap', hx, hv, hc⟩ := HC.out k (by have := HN.out; omega)
      injection hv with hv1 hv2 hv3
      subst hv1 hv3
      clear hv2
      have HX := Lib.hid hx
      clear hx
      cases hs : isSp x with
      | true =>
        have HS := Lib.hid (notStep_b false x · (by rw [hs]; rfl))
        have HT := Lib.hid hs
        clear hs
        go_wp2_with fail
        refine (HS.out _).mono ?_
        rintro e w' ⟨rfl, rfl⟩
        go_wp2
        go_round
        case rel => exact ⟨k + 1, by omega, by go_num, fun j hj y hy => by
          by_cases e : j = k
          · rw [e, HX.out] at hy; injection hy with hy; rw [← hy]; exact HT.out
          · exact HE.out j (by omega) y hy⟩
        case measure => simp [intOf]; omega
      | false =>
        have HS := Lib.hid (notStep_b true x · (by rw [hs]; rfl))
        have HT := Lib.hid hs
        clear hs
        go_wp2_with fail
        refine (HS.out _).mono ?_
        rintro e w' ⟨rfl, rfl⟩
        go_wp2
        go_ret
        refine ⟨k, rfl, ?_, by omega, by omega, rfl⟩
        have : allSp xs = false := by
          unfold allSp
          rw [List.all_eq_false]
          exact ⟨x, List.mem_of_getElem? HX.out, by rw [HT.out]; decide⟩
        simp [this]
    · go_wp2
      go_ret
      refine ⟨-1, rfl, ?_, by omega, by omega, rfl⟩
      have : allSp xs = true := by
        unfold allSp
        rw [List.all_eq_true]
        intro x hx
        obtain ⟨j, hj⟩ := List.getElem?_of_mem hx
        have := (List.getElem?_eq_some_iff.1 hj).1
        exact HE.out j (by have := HN.out; omega) x hj
      simp [this]
theorem containsf_c (v : Value) (xs : List Int) (b : Bool) (w : World) (h1 : Ints w v xs) (hm : xs.length ≤ 4611686018427387904) (hb : allSp xs = !b) :
    Calls Tryd.prog 39 #[v, .func (.func 40) #[] #[]] w fun e w' => e = .returned (.bool b) ∧ w = w' := by
  have HC := Lib.hid (indexf_c v xs w h1 hm)
  rw [hb, Bool.not_not] at HC
  clear h1 hm hb
  go_enter Tryd.func39, Tryd.ntmps39
  go_wp2_with fail
  refine HC.out.mono ?_
  rintro e w2 ⟨r, rfl, hr, hr1, hr2, rfl⟩
  have HR := Lib.hid hr
  clear hr
  go_wp2
  go_ret
  refine ⟨?_, rfl⟩
  rw [← HR.out]
  rfl

/-- What a round of a range over followed keeps. -/
def FolKp (m Bn : Nat) (W W' : World) : Prop := Kept (fun b => b ≠ Bn ∧ m ≤ b) W W'

theorem step_b (s t : Int) (w : World) (T : Tbl w) (h1 : isSt s = true) (h2 : isSp t = true) (q : ¬ lead s t = -1) :
    Calls Tryd.prog 18 #[.int .i64 s, .int .i64 t] w fun r w' => r = .returned (.tuple #[.int .i64 (lead s t), .int .i64 0]) ∧ w = w' :=
  step_c s t _ _ w T (by unfold stepF; rw [h1, h2]; simp [q])
theorem step_e (s t : Int) (w : World) (T : Tbl w) (h1 : isSt s = true) (h2 : isSp t = true) (q : lead s t = -1) :
    Calls Tryd.prog 18 #[.int .i64 s, .int .i64 t] w fun r w' => r = .returned (.tuple #[.int .i64 0, .int .i64 9]) ∧ w = w' :=
  step_c s t _ _ w T (by unfold stepF; rw [h1, h2]; simp [q])

set_option maxRecDepth 100000 in
set_option maxHeartbeats 2000000 in
theorem fol_in (n : Nat) (hn : 1 ≤ n) (l Bn m : Nat) (hm2 : 1 < m) (v : Value) (xs : List Int) (hm : xs.length ≤ 4611686018427387904) (hsp : allSp xs = true) (J Jx : List (Int × Int) → World → Prop)
    (hY : ∀ pre x W, J pre W → pre.length < xs.length → YieldAt Fence.wide (n - 1) Tryd.prog l #[.int .i64 x.1, .int .i64 x.2] W fun e W' =>
      (e = .returned (.bool true) ∧ J (pre ++ [x]) W' ∧ FolKp m Bn W W') ∨ (e = .returned (.bool false) ∧ Jx (pre ++ [x]) W'))
    (W : World) (hBn : W.cell? ⟨Bn, 0, none⟩ = some v) (T : Tbl W) (hI : Ints W v xs) (hIm : ∀ b, v.ownBlock = some b → 0 < xs.length → b < m) (h0 : J [] W) :
    CallsIn Fence.wide n Tryd.prog 50 #[.func (.yield l) #[] #[], .pointer (some ⟨Bn, 0, none⟩)] W fun e W' => (∃ v, e = .returned v) ∧
      ((∃ ys, ys = fol 0 xs ∧ J ys W') ∨ (∃ pre, pre <+: fol 0 xs ∧ Jx pre W')) := by
  obtain ⟨N, hN⟩ : ∃ N, xs.length = N := ⟨_, rfl⟩
  obtain ⟨a, cap, hv⟩ := hI.len
  rw [hN] at hm hv
  rw [hv] at hBn
  have HV := Lib.hid hv
  have HN := Lib.hid hN
  have HSP := Lib.hid hsp
  have HIM := Lib.hid hIm
  clear hv hN hsp hIm
  refine callsIn_of_wp Tryd.func50 rfl trivial ?_ rfl
  simp only [Tryd.ntmps50, List.size_toArray, List.length_cons, List.length_nil, Nat.reduceAdd, Nat.reduceSub, Array.replicate_succ, Array.replicate_zero, List.push_toArray, List.append_toArray, List.nil_append, List.cons_append]
  gi_wp2
  gi_loopw [3, 10] (fun s p wr => ∃ k : Nat, k ≤ N ∧ p = .int .i64 k ∧ ∃ st : Int, s = .int .i64 st ∧ isSt st = true ∧ Tbl wr ∧ Ints wr v xs ∧ wr.cell? ⟨Bn, 0, none⟩ = some (.slice a N cap) ∧ ∃ pre, fol 0 xs = pre ++ fol st (xs.drop k) ∧ pre.length ≤ k ∧ J pre wr)
    (fun _ p _ => N - (intOf p).toNat)
  case atStart =>
    exact ⟨0, by omega, rfl, 0, rfl, rfl, T, hI, hBn, [], rfl, by simp, h0⟩
  case round =>
    clear hI hBn h0 T
    obtain ⟨k, hk, rfl, st, rfl, hst, T, hI, hBn, pre, hpre, hpl, hJ⟩ := hrel
    have HP := Lib.hid hpre
    clear hpre
    by_cases hlt : k < N
    · obtain ⟨x, hx⟩ : ∃ x, xs[k]? = some x := ⟨_, List.getElem?_eq_getElem (by have := HN.out; omega)⟩
      have hxs : isSp x = true := List.all_eq_true.1 HSP.out x (List.mem_of_getElem? hx)
      obtain ⟨b, off, cap', hv, hb, hc⟩ := hI.pos (by have := HN.out; omega)
      have hc := hc k x hx
      rw [HV.out] at hv
      injection hv with hv1 hv2 hv3
      subst hv1 hv3
      by_cases hl : lead st x = -1
      · have HS := Lib.hid (step_e st x wr T hst hxs hl)
        have HX := Lib.hid (fol_stop (s := st) hx hl)
        clear hl hx hst hxs hI hv2
        gi_wp2_with fail
        refine ⟨trivial, ?_⟩
        refine (callsIn_wide.2 HS.out).mono ?_
        rintro e W3 ⟨rfl, rfl⟩
        gi_wp2
        refine ⟨fun _ h => (by cases h), ?_⟩
        gi_wp2
        refine bodyPost_ret (results_none rfl _ _ _) rfl ?_
        exact ⟨⟨_, rfl⟩, .inl ⟨pre, by rw [HP.out, HX.out, List.append_nil], hJ⟩⟩
      · have HS := Lib.hid (step_b st x wr T hst hxs hl)
        have HX := Lib.hid (fol_on (s := st) hx hl)
        have hst2 := lead_st hst hxs hl
        clear hl hx hst hxs hv2
        generalize lead st x = st2 at HS HX hst2
        obtain ⟨fn, tmps, assign, body, hy, hR⟩ := hY pre (x, st2) wr hJ (by have := HN.out; omega)
        gi_wp2_with fail
        refine ⟨trivial, ?_⟩
        refine (callsIn_wide.2 HS.out).mono ?_
        rintro e W3 ⟨rfl, rfl⟩
        gi_wp2
        refine hR.mono ?_
        rintro e W3 (⟨rfl, hJ3, hk3⟩ | ⟨rfl, hJx3⟩)
        · have T3 := T.kept hk3 (fun h => by have := h.2; omega) (fun h => by have := h.2; omega)
          have hI3 := hI.kept hk3 (fun b hb hx h => by have := h.2; have := HIM.out b hb hx; omega)
          have hBn3 : W3.cell? ⟨Bn, 0, none⟩ = some (.slice (some ⟨b, off, none⟩) N cap) := (hk3.cell (a := ⟨Bn, 0, none⟩) (World.block_lt_of_cell? _ _ hBn) (fun h => h.1 rfl)).trans hBn
          have HI3 := Lib.hid hI3
          clear hI3 hI
          gi_wp2
          go_roundw
          case rel => exact ⟨k + 1, by omega, by go_num, st2, rfl, hst2, T3, HI3.out, hBn3, _, by rw [HP.out, HX.out]; simp, by simp; omega, hJ3⟩
          case measure => simp [intOf]; omega
        · gi_wp2
          refine bodyPost_ret (results_none rfl _ _ _) rfl ?_
          exact ⟨⟨_, rfl⟩, .inr ⟨_, by rw [HP.out, HX.out]; simp, hJx3⟩⟩
    · obtain rfl : N = k := by omega
      gi_wp2
      go_end0
      exact ⟨⟨_, rfl⟩, .inl ⟨pre, by rw [HP.out, fol_end (by have := HN.out; omega), List.append_nil], hJ⟩⟩
end Go.Proofs.YthpbejdigllmbaaDoor
