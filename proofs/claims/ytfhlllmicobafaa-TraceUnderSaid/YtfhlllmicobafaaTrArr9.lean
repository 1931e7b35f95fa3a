/- TrArr9: texts for the statements of this seat: contracts of functions, walks, plain laws. Conditions: none. -/
import Derived.ChangeKeysEq
import Derived.Laws.StructEq
import Derived.Test.YtfhlllmicobafaaTrTally
set_option linter.all false
/- Two arrays of nine numbers, compared. -/
namespace Go.Proofs.Ytfhlllmicobafaa
open Go.RowKit
theorem eqItems_ints (w : World) (d : Nat) (xs ys : List Int) (hl : xs.length = ys.length) : ∀ is : List Nat, (∀ i ∈ is, i < xs.length) →
    (Op.eqItems (d + 1) 3 1 (iv9 xs).toArray (iv9 ys).toArray is).run Try.prog w = .ok (is.all fun i => xs.getD i 0 == ys.getD i 0) w
  | [], _ => by simp [Op.eqItems]
  | i :: is, h => by
    have ih := eqItems_ints w d xs ys hl is (fun j hj => h j (by simp [hj]))
    have hi := h i (by simp)
    have px : (part 3 (iv9 xs).toArray (i * 1)).run Try.prog w = .ok (.int .i64 (xs.getD i 0)) w := by
      simp [part, isAgg, run_underlying Try.underlying3, iv9, List.getD, List.getElem?_eq_getElem hi]
    have py : (part 3 (iv9 ys).toArray (i * 1)).run Try.prog w = .ok (.int .i64 (ys.getD i 0)) w := by
      simp [part, isAgg, run_underlying Try.underlying3, iv9, List.getD, List.getElem?_eq_getElem (show i < ys.length by omega)]
    simp only [Op.eqItems, Sem.run_bind, px, py, Result.andThen_ok, run_equalIn_int w d 3 .i64 .i64 _ _ Try.underlying3, List.all_cons]
    cases hb : (xs.getD i 0 == ys.getD i 0)
    · simp
    · simp [ih]
theorem all_getD : ∀ (xs ys : List Int), xs.length = ys.length → ((List.range xs.length).all fun i => xs.getD i 0 == ys.getD i 0) = decide (xs = ys)
  | [], [], _ => by simp
  | x :: xs, y :: ys, h => by
    have ih := all_getD xs ys (by simpa using h)
    rw [List.length_cons, List.range_succ_eq_map, List.all_cons, List.all_map]
    simp only [List.getD_cons_zero, Function.comp_def, List.getD_cons_succ, ih]
    by_cases hx : x = y <;> simp [hx]
  | [], _ :: _, h => by simp at h
  | _ :: _, [], h => by simp at h
theorem Try.arr49 : Try.prog.underlying 49 = some (.array 9 3) := Try.underlying49
theorem Try.info3s : ∃ i, Try.prog.info? 3 = some i := Option.isSome_iff_exists.1 (show (Try.prog.info? 3).isSome = true by kernel_rfl)
theorem Try.cells3 : Try.prog.cellsOf 3 = 1 := by kernel_rfl
theorem run_equalIn9 (w : World) (xs ys : List Int) (hx : xs.length = 9) (hy : ys.length = 9) :
    (Op.equalIn 10000 49 (.agg (iv9 xs).toArray) (.agg (iv9 ys).toArray)).run Try.prog w = .ok (decide (xs = ys)) w := by
  obtain ⟨i, hi⟩ := Try.info3s
  rw [show (10000 : Nat) = 9999 + 1 from rfl, run_equalIn_array w 9999 _ _ Try.arr49 hi, Try.cells3, show (9999 : Nat) = 9998 + 1 from rfl, eqItems_ints w 9998 xs ys (hx.trans hy.symm) _ (fun j hj => by rw [hx]; simpa using hj), ← hx, all_getD xs ys (hx.trans hy.symm)]
theorem run_eql9 (w : World) (xs ys : List Int) (hx : xs.length = 9) (hy : ys.length = 9) :
    (binOp .eql 49 (.agg (iv9 xs).toArray) (.agg (iv9 ys).toArray)).run Try.prog w = .ok (.bool (decide (xs = ys))) w := by
  obtain ⟨i, hi⟩ := Try.info3s
  rw [run_eql_struct, show (10000 : Nat) = 9999 + 1 from rfl, run_equalIn_array w 9999 _ _ Try.arr49 hi, Try.cells3, show (9999 : Nat) = 9998 + 1 from rfl, eqItems_ints w 9998 xs ys (hx.trans hy.symm) _ (fun j hj => by rw [hx]; simpa using hj), ← hx, all_getD xs ys (hx.trans hy.symm)]
  rfl
end Go.Proofs.Ytfhlllmicobafaa
