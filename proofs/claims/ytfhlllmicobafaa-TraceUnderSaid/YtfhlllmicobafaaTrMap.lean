/- TrMap: texts for the statements of this seat: contracts of functions, walks, plain laws. Conditions: none. -/
import Derived.Test.YtfhlllmicobafaaTrW1
import Derived.Test.YtfhlllmicobafaaGeAll
set_option linter.all false
/- The map of runs under way. -/
namespace Go.Proofs.Ytfhlllmicobafaa
open Go.RowKit
open Tr (Ev)

def evD (e : Ev) : DataW Unit := .agg [.lit (.int .i64 e.kind), .lit (.int .i64 e.t), .lit (.int .i64 e.job), .lit (.int .i64 e.due), .lit (.int .i64 e.att), .lit (.int .i64 e.run), .lit (.int .i64 e.why), .lit (.int .i64 e.whn)]
def evR (v : Value) : Option (DataW Unit × List MemPlace) :=
  match v with
  | .agg ⟨[.int .i64 a0, .int .i64 a1, .int .i64 a2, .int .i64 a3, .int .i64 a4, .int .i64 a5, .int .i64 a6, .int .i64 a7]⟩ => some (evD ⟨a0, a1, a2, a3, a4, a5, a6, a7⟩, [])
  | _ => none
theorem evCode : ECode evR evV evD where
  at_ := fun x => rfl
  inv := fun v x ps h => by
    unfold evR at h
    split at h
    · simp [evD] at h
      obtain ⟨⟨h0, h1, h2, h3, h4, h5, h6, h7⟩, -⟩ := h
      subst h0 h1 h2 h3 h4 h5 h6 h7
      rfl
    · cases h
  shape := fun v y h => by
    unfold evR at h
    split at h
    · exact ⟨⟨_, _, _, _, _, _, _, _⟩, rfl⟩
    · cases h
def ev0 : Ev := ⟨0, 0, 0, 0, 0, 0, 0, 0⟩
theorem zero35 (w : World) : (zeroValue 35).run Try.prog w = .ok (evV ev0) w := by kernel_rfl
abbrev Mp (w : World) (b n : Nat) (L : List Ev) : Prop := MapOf Try.prog 3 evR evD w b n (Tr.look L)
theorem Mp.snoc {w : World} {b n : Nat} {L : List Ev} {x : Ev} (h : MapOf Try.prog 3 evR evD w b n (fun s => if s = x.run then some x else Tr.look L s)) (hn : ∀ e ∈ L, e.run ≠ x.run) : Mp w b n (L ++ [x]) :=
  h.congr fun r _ => Tr.look_snoc hn r
theorem Mp.filter {w : World} {b n : Nat} {L : List Ev} {s : Int} (h : MapOf Try.prog 3 evR evD w b n (fun r => if r = s then none else Tr.look L r)) : Mp w b n (L.filter (fun e => e.run != s)) :=
  h.congr fun r _ => Tr.look_filter L s r
end Go.Proofs.Ytfhlllmicobafaa
