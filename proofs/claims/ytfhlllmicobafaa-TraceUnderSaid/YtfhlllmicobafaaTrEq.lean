/- TrEq: texts for the statements of this seat: contracts of functions, walks, plain laws. Conditions: none. -/
import Derived.Shelf.SlicesQ.Equal
import Derived.Laws.StructEq
import Derived.Ground.SlgqProg
import Derived.Test.YtfhlllmicobafaaTrW1
import Derived.Test.YtfhlllmicobafaaGeAll
set_option linter.all false
/- Equal and Clone of lists of events. -/
namespace Go.Proofs.Ytfhlllmicobafaa
open Go.RowKit Go.Shelf Go.Lib
open Tr (Ev)
def Try.laysQ8_ren : Go.Shelf.Ren := ⟨fun | 8 => 23 | n => n, fun | 22 => 22 | 24 => 35 | 4 => 4 | 3 => 3 | 0 => 0 | n => n, fun | n => n⟩
theorem Try.laysQ8 : Go.Proofs.SlLaysQ.n8 Try.prog Try.laysQ8_ren := {
  mixed := by kernel_rfl
  f8 := ⟨Try.f23.name, by decide, Try.func23.trans (congrArg some (by kernel_rfl))⟩
  t0 := Try.underlying0
  a0 := Try.isAgg0
  z0 := Try.sizeOf0
  v0 := Try.zeroValue0
  t3 := Try.underlying3
  a3 := Try.isAgg3
  z3 := Try.sizeOf3
  v3 := Try.zeroValue3
  t4 := Try.underlying4
  a4 := Try.isAgg4
  z4 := Try.sizeOf4
  v4 := Try.zeroValue4
  t22 := Try.underlying22
  a22 := Try.isAgg22
  z22 := Try.sizeOf22
  v22 := Try.zeroValue22 }
instance : Inhabited Ev := ⟨⟨0, 0, 0, 0, 0, 0, 0, 0⟩⟩
theorem ev_eqb (x y : Ev) : (x.kind == y.kind && (x.t == y.t && (x.job == y.job && (x.due == y.due && (x.att == y.att && (x.run == y.run && (x.why == y.why && x.whn == y.whn))))))) = decide (x = y) := by
  by_cases h : x = y
  · subst h; simp
  · rw [decide_eq_false h]
    cases hb : (x.kind == y.kind && (x.t == y.t && (x.job == y.job && (x.due == y.due && (x.att == y.att && (x.run == y.run && (x.why == y.why && x.whn == y.whn))))))) with
    | false => rfl
    | true =>
      simp only [Bool.and_eq_true, beq_iff_eq] at hb
      obtain ⟨h1, h2, h3, h4, h5, h6, h7, h8⟩ := hb
      exact absurd (Tr.Ev.ext' h1 h2 h3 h4 h5 h6 h7 h8) h
theorem Try.neqEv : NeqAt Try.prog 35 (fun x => .agg (evC x).toArray) (fun x y => decide (x = y)) := by
  refine ⟨fun x y w => ?_, GuardAt.agg _ (by kernel_rfl)⟩
  have u3 := Try.underlying3
  have a3 := Try.isAgg3
  have z3 := Try.sizeOf3
  have u2 := Try.underlying2
  have a2 := Try.isAgg2
  have z2 := Try.sizeOf2
  have hS : Try.prog.underlying 35 = some (.struct (Try.prog.fieldsOf 35)) := by kernel_rfl
  have hp : Try.prog.stoodInHeld 35 = false := by kernel_rfl
  simp only [evC]
  rw [run_neq_struct, show (10000 : Nat) = 9999 + 1 from rfl, run_equalIn_agg w 9999 35 _ _ hS hp]
  simp only [Program.fieldsOf, Try.underlying35]
  rw [← ev_eqb x y]
  go_simp
  by_cases h1 : x.kind = y.kind <;> simp [h1]
  by_cases h2 : x.t = y.t <;> simp [h2]
  by_cases h3 : x.job = y.job <;> simp [h3]
  by_cases h4 : x.due = y.due <;> simp [h4]
  by_cases h5 : x.att = y.att <;> simp [h5]
  by_cases h6 : x.run = y.run <;> simp [h6]
  by_cases h7 : x.why = y.why <;> simp [h7]
  by_cases h8 : x.whn = y.whn <;> simp [h8]
theorem allEq_dec {α : Type} [DecidableEq α] : ∀ (xs ys : List α), allEq (fun x y => decide (x = y)) xs ys = decide (xs = ys)
  | [], [] => by simp [allEq]
  | [], y :: ys => by simp [allEq]
  | x :: xs, [] => by simp [allEq]
  | x :: xs, y :: ys => by
    have := allEq_dec xs ys
    simp [allEq, this]
theorem equal23_c {w : World} {u v : Value} {xs ys : List Ev} (hu : Evs w u xs) (hv : Evs w v ys) (hx : xs.length ≤ 1000000000) (hy : ys.length ≤ 1000000000) :
    Calls Try.prog 23 #[u, v] w fun e w' => e = .returned (.bool (decide (xs = ys))) ∧ Kept (fun _ => False) w w' := by
  by_cases hl : xs.length = ys.length
  · rcases Nat.eq_zero_or_pos xs.length with h0 | h0
    · obtain ⟨a, c, rfl⟩ := hu.len
      obtain ⟨b, d, rfl⟩ := hv.len
      have e1 := List.eq_nil_of_length_eq_zero h0
      have e2 := List.eq_nil_of_length_eq_zero (hl ▸ h0)
      subst e1 e2
      go_enter Try.func23, Try.ntmps23
      go_wp2
      go_loopw [13] (fun q wr => q = .int .i64 0 ∧ wr = w) (fun q _ => 0)
      case atStart => exact ⟨rfl, rfl⟩
      case round =>
        obtain ⟨rfl, rfl⟩ := hrel
        go_wp2
        go_ret
        exact ⟨by simp, Kept.refl _ _⟩
    · obtain ⟨b1, o1, c1, rfl, -, hb1, hr1⟩ := hu.pos h0
      obtain ⟨b2, o2, c2, rfl, -, hb2, hr2⟩ := hv.pos (by omega)
      have := AnyQ.slices_Equal Try.laysQ8 8 Try.isAgg35 Try.sizeOf35 evC evC_len _ Try.neqEv b1 o1 xs.length c1 b2 o2 ys.length c2 xs ys w (Nat.le_refl _) (Nat.le_refl _) (by omega) (by omega)
        (fun j hj i v hv => hr1 j _ (by rw [List.getElem?_eq_getElem hj, ← getElem!_pos xs j hj]) i v hv) (fun j hj i v hv => hr2 j _ (by rw [List.getElem?_eq_getElem hj, ← getElem!_pos ys j hj]) i v hv)
      refine this.mono ?_
      rintro e w' ⟨rfl, q, rfl⟩
      exact ⟨by rw [allEq_dec, List.take_length, List.take_length], (Kept.refl _ w).drewN q⟩
  · obtain ⟨a, c, rfl⟩ := hu.len
    obtain ⟨b, d, rfl⟩ := hv.len
    have hne : ¬ xs = ys := fun h => hl (by rw [h])
    have hd : decide (xs = ys) = false := decide_eq_false hne
    rw [hd]
    have h1 : xs.length ≤ 9223372036854775807 := by omega
    have h2 : ys.length ≤ 9223372036854775807 := by omega
    have hb : ((xs.length : Int) != (ys.length : Int)) = true := by simp; omega
    clear hu hv hne hd
    generalize xs.length = n at *
    generalize ys.length = m at *
    go_enter Try.func23, Try.ntmps23
    go_wp2
    go_ret
    exact ⟨rfl, Kept.refl _ _⟩
end Go.Proofs.Ytfhlllmicobafaa
