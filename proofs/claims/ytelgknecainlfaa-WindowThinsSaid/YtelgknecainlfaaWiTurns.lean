/- WiTurns: texts for the statements of this seat: contracts of functions, walks, plain laws. Conditions: none. -/
import Derived.Test.YtelgknecainlfaaWiSort
set_option linter.all false
/- turns. -/
namespace Go.Proofs.Ytelgknecainlfaa
open Go.RowKit
open Wi (vld Srt chk)

def trn1 (p : Int × Int) : List T2 := if p.1 = p.2 then [] else [(p.1, true), (p.2, false)]
def trn (f g : List Int) : List T2 := (f.zip g).flatMap trn1
def trnU (f g : List Int) (j : Nat) : List T2 := ((f.zip g).take j).flatMap trn1
theorem trnU_snoc {f g : List Int} {j : Nat} {x y : Int} (hx : f[j]? = some x) (hy : g[j]? = some y) : trnU f g (j + 1) = trnU f g j ++ trn1 (x, y) := by
  unfold trnU
  rw [List.take_add_one, zip_at hx hy, List.flatMap_append]
  simp
theorem trn1_len (p : Int × Int) : (trn1 p).length ≤ 2 := by
  unfold trn1
  split <;> simp
theorem info62q : (Try.prog.info? 62).map (fun i => (i.zero, i.size, i.bytes)) = some (some (.agg #[.int .i64 0, .bool false]), 2, 16) := by kernel_rfl
theorem el58 : ElemOk Try.prog 58 62 2 16 := .mk' Try.underlying58 info62q rfl (by decide)
end Go.Proofs.Ytelgknecainlfaa
