/- ArLive: texts for the statements of this seat: contracts of functions, walks, plain laws. Conditions: none. -/
import Derived.Test.YtokmjjjedljcpaaArA
import Derived.Test.YtokmjjjedljcpaaArRange
set_option linter.all false
namespace Go.Proofs.Ytokmjjjedljcpaa
open Go.RowKit Go.Shelf

attribute [local go_sem] Oper.semAt_some

/-- The slots below k that are taken. -/
def Ar.upto (A : Ar) (k : Nat) : List Nat := (List.range k).filter fun j => match A.sl[j]? with | some s => s.taken | none => false
theorem Ar.upto_yes {A : Ar} {k : Nat} {s : Sl} (hs : A.sl[k]? = some s) (ht : s.taken = true) : A.upto (k + 1) = A.upto k ++ [k] := by
  simp [Ar.upto, List.range_succ, List.filter_append, hs, ht]
theorem Ar.upto_no {A : Ar} {k : Nat} {s : Sl} (hs : A.sl[k]? = some s) (ht : s.taken = false) : A.upto (k + 1) = A.upto k := by
  simp [Ar.upto, List.range_succ, List.filter_append, hs, ht]

/-- What a round of a range over the taken slots keeps: the arena's blocks, and the box of the receiver. -/
def LiveKp (ab sb Bn : Nat) (W W' : World) : Prop := Kept (fun b => b ≠ ab ∧ b ≠ sb ∧ b ≠ Bn) W W'

theorem Ar.upto_prefix (A : Ar) {k n : Nat} (h : k ≤ n) : A.upto k <+: A.upto n := by
  obtain ⟨d, rfl⟩ := Nat.exists_eq_add_of_le h
  simp only [Ar.upto, List.range_add, List.filter_append]
  exact List.prefix_append _ _

set_option maxRecDepth 100000 in
set_option maxHeartbeats 2000000 in
theorem live1_in (F : Fence) (n : Nat) (hF : F.fn 42) (hro : F.round = none) (_hn : 1 ≤ n) (l Bn ab sb cap : Nat) (A : Ar) (ok : A.Ok) (J Jx : List { k : Nat // k < A.sl.length } → World → Prop)
    (hY : ∀ pre x W, J pre W → pre.length < A.sl.length → YieldAt F (n - 1) Try.prog l #[.int .i64 (x.1 : Nat)] W fun e W' =>
      (e = .returned (.bool true) ∧ J (pre ++ [x]) W' ∧ LiveKp ab sb Bn W W') ∨ (e = .returned (.bool false) ∧ Jx (pre ++ [x]) W'))
    (W : World) (hBn : W.cell? ⟨Bn, 0, none⟩ = some (.pointer (some ⟨ab, 0, none⟩))) (hI : IsAr W ab sb cap A) (h0 : J [] W) :
    CallsIn F n Try.prog 42 #[.func (.yield l) #[] #[], .pointer (some ⟨Bn, 0, none⟩)] W fun e W' => (∃ v, e = .returned v) ∧
      ((∃ ys, ys.map Subtype.val = A.upto A.sl.length ∧ J ys W') ∨ (∃ pre, pre.map Subtype.val <+: A.upto A.sl.length ∧ Jx pre W')) := by
  have hm := ok.len
  have c1 := hI.slots
  refine callsIn_of_wp Try.func42 rfl hF ?_ hro
  simp only [Try.ntmps42, List.size_toArray, List.length_cons, List.length_nil, Nat.reduceAdd, Nat.reduceSub, Array.replicate_succ, Array.replicate_zero, List.push_toArray, List.append_toArray, List.nil_append, List.cons_append]
  gi_wp2
  gi_loopw [9] (fun p wr => ∃ k : Nat, k ≤ A.sl.length ∧ p = .int .i64 k ∧ IsAr wr ab sb cap A ∧ wr.cell? ⟨Bn, 0, none⟩ = some (.pointer (some ⟨ab, 0, none⟩)) ∧ ∃ pre, pre.map Subtype.val = A.upto k ∧ J pre wr)
    (fun p _ => A.sl.length - (intOf p).toNat)
  case atStart =>
    exact ⟨0, by omega, rfl, hI, hBn, [], rfl, h0⟩
  case round =>
    clear c1 hI hBn h0
    obtain ⟨k, hk, rfl, hI, hBn, pre, hpre, hJ⟩ := hrel
    have hpre := Lib.hid hpre
    have c1 := hI.slots
    by_cases hlt : k < A.sl.length
    · obtain ⟨s, hs⟩ : ∃ s, A.sl[k]? = some s := ⟨_, List.getElem?_eq_getElem hlt⟩
      have S := hI.slot k s hs
      have c3 := S.taken
      cases ht : s.taken with
      | false =>
        rw [ht] at c3
        gi_wp2
        refine ⟨fun _ h => (by cases h), ?_⟩
        gi_wp2
        go_roundw
        case rel => exact ⟨k + 1, by omega, by go_num, hI, hBn, pre, by rw [Ar.upto_no hs ht]; exact hpre.out, hJ⟩
        case measure => simp [intOf]; omega
      | true =>
        rw [ht] at c3
        have hl : (A.upto k).length ≤ k := by have := List.length_filter_le (fun j => match A.sl[j]? with | some s => s.taken | none => false) (List.range k); simpa [Ar.upto] using this
        have hl2 : pre.length ≤ k := by have := congrArg List.length hpre.out; rw [List.length_map] at this; omega
        obtain ⟨fn, tmps, assign, body, hy, hR⟩ := hY pre ⟨k, hlt⟩ wr hJ (by omega)
        gi_wp2
        refine hR.mono ?_
        rintro e W3 (⟨rfl, hJ3, hk3⟩ | ⟨rfl, hJx3⟩)
        · have hI3 := hI.kept hk3 (fun h => h.1 rfl) (fun h => h.2.1 rfl)
          have hBn3 : W3.cell? ⟨Bn, 0, none⟩ = some (.pointer (some ⟨ab, 0, none⟩)) := (hk3.cell (a := ⟨Bn, 0, none⟩) (World.block_lt_of_cell? _ _ hBn) (fun h => h.2.2 rfl)).trans hBn
          gi_wp2
          go_roundw
          case rel => exact ⟨k + 1, by omega, by go_num, hI3, hBn3, _, by rw [Ar.upto_yes hs ht, List.map_append, hpre.out]; rfl, hJ3⟩
          case measure => simp [intOf]; omega
        · gi_wp2
          refine bodyPost_ret (results_none rfl _ _ _) rfl ?_
          exact ⟨⟨_, rfl⟩, .inr ⟨_, by rw [List.map_append, hpre.out, List.map_cons, List.map_nil, ← Ar.upto_yes hs ht]; exact A.upto_prefix (by omega), hJx3⟩⟩
    · obtain rfl : A.sl.length = k := by omega
      gi_wp2
      go_end0
      exact ⟨⟨_, rfl⟩, .inl ⟨pre, hpre.out, hJ⟩⟩
end Go.Proofs.Ytokmjjjedljcpaa
