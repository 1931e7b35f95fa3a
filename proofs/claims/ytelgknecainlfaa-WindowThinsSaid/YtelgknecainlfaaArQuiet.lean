/- ArQuiet: texts for the statements of this seat: contracts of functions, walks, plain laws. Conditions: none. -/
import Derived.Deep.Quiet
import Derived.Deep.QuietTactic
set_option linter.all false
/- A region that draws its order, whose operations read the same in every world of a class and whose calls stay in the class. -/
namespace Go.Proofs.Ytelgknecainlfaa
variable {P : Program} {ops : Array Oper} {C : World → Prop} {Q : Act → Prop} {a : Act} {o : Oper} {rest : List Oper}
theorem wpQuiet_yes (hw : Region.wanted o (yielded ops a.tmps) = true) (v : Value) (h : ∀ w, C w → Oper.quietUpon P C w v ((execOp a.eval o).run P w)) (hn : wpQuiet P ops C Q rest (a.put o.dst v)) : wpQuiet P ops C Q (o :: rest) a := by
  unfold wpQuiet
  rw [if_pos hw]
  exact ⟨v, h, hn⟩
theorem wpQuiet_no (hw : Region.wanted o (yielded ops a.tmps) = false) (hn : wpQuiet P ops C Q rest (a.put o.dst undef)) : wpQuiet P ops C Q (o :: rest) a := by
  unfold wpQuiet
  rw [if_neg (by rw [hw]; decide)]
  exact hn
theorem quietUpon_value {w : World} {u v : Value} (h : u = v) : Oper.quietUpon P C w v (.ok (.value u) w) := ⟨rfl, h⟩
theorem quietUpon_call {w : World} {v : Value} {f : Nat} {args : Array Value} (h : Calls P f args w (fun e w'' => e = .returned v ∧ C w'')) : Oper.quietUpon P C w v (.ok (.enter f args) w) := ⟨rfl, h⟩
theorem wp_region_class {id : Nat} {Q : Exit → Act → World → Prop} {w : World} {l : List Oper} (C : World → Prop) (hm : P.follows .mixedOrders = true) (hB : Region.lexB .any l.toArray = true) (hC : C w.drew)
    (h : wpQuiet P l.toArray C (fun a' => ∀ w', C w' → Q .normal a' w') l a) : (Code.region id l.toArray true).wp P Q a w :=
  wp_region_quiet (C := C) hm hB hC (by simpa using h)
end Go.Proofs.Ytelgknecainlfaa
