/- OcNamesW: texts for the statements of this seat: contracts of functions, walks, plain laws. Conditions: none. -/
import Derived.Test.YthpbejdigllmbaaDoorOcWorks
namespace Go.Proofs.YthpbejdigllmbaaDoor
open Go.RowKit

def strV (k : Nat) : ByteArray := ⟨(nameL.getD k []).toArray⟩
set_option maxHeartbeats 1000000 in
theorem names_c (w : World) (T : Tbl w) : Calls Tryd.prog 5 #[] w fun e w' => e = .returned (.bool true) ∧ Kept (fun _ => False) w w' := by
  have HT := Lib.hid T
  clear T
  go_enter Tryd.func5, Tryd.ntmps5
  go_wp2
  have R : RowAt (w.alloc (.cells (((List.range 7).map fun k => Value.string (strV k)).toArray) 9)) w.heap.size ((List.range 7).map fun k => Value.string (strV k)) := RowAt.new w 9 _
  have KA : Kept (fun _ => False) w (w.alloc (.cells (((List.range 7).map fun k => Value.string (strV k)).toArray) 9)) := (Kept.refl _ w).alloc _
  go_loopw [7] (fun i wr => ∃ k : Nat, k ≤ 7 ∧ i = .int .i64 k ∧ RowAt wr w.heap.size ((List.range 7).map fun k => Value.string (strV k)) ∧ Kept (fun _ => False) w wr)
    (fun i _ => 7 - (intOf i).toNat)
  case atStart => exact ⟨0, by omega, rfl, R, KA⟩
  case round =>
    clear R KA
    obtain ⟨k, hk, rfl, R, K⟩ := hrel
    have T := HT.out.same K
    by_cases hlt : k < 7
    · have hc := R.get (j := k) (v := .string (strV k)) (by simp [hlt])
      have H := Lib.hid (name_c k (nameL.getD k []) 0 wr T (by unfold nameF isSt; simp; omega))
      have H : Hid (Calls Tryd.prog 17 #[.int .i64 k] wr fun r w' => r = .returned (.tuple #[.string (strV k), .int .i64 0]) ∧ wr = w') := Lib.hid H.out
      have HR := Lib.hid (And.intro R K)
      generalize strV k = q at hc H
      clear R K T
      go_wp2_with fail
      refine H.out.mono ?_
      rintro e w1 ⟨rfl, rfl⟩
      go_wp2
      go_roundw
      case rel => exact ⟨k + 1, by omega, by go_num, HR.out.1, HR.out.2⟩
      case measure => simp [intOf]; omega
    · have H := Lib.hid (works_c wr T)
      have HK := Lib.hid K
      clear R K T
      go_wp2_with fail
      refine H.out.mono ?_
      rintro e w1 ⟨rfl, K1⟩
      go_wp2
      go_ret
      exact ⟨rfl, HK.out.trans K1 (fun _ _ h => h)⟩
end Go.Proofs.YthpbejdigllmbaaDoor
