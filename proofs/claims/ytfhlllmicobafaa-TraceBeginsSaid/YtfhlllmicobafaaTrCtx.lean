/- TrCtx: texts for the statements of this seat: contracts of functions, walks, plain laws. Conditions: none. -/
import Derived.Test.YtfhlllmicobafaaTrOpen
import Derived.Test.YtfhlllmicobafaaGeAll
import Derived.Test.YtfhlllmicobafaaTrMadeW
import Derived.Test.YtfhlllmicobafaaTrWorks
import Derived.Test.YtfhlllmicobafaaTrRunning
set_option linter.all false
/- Numbers of 32 bits as an argument, with the room behind them. -/
namespace Go.Proofs.Ytfhlllmicobafaa
open Go.RowKit Go.ChangeShapes Go.WideShapes Go.ChangeAt
section
variable {H : Type} {enc : TypeId × Value → H} {P : Program}
theorem open_cap {t e : TypeId} {k : IntKind} {W : World} {base : Nat} {v : Value} {d : DataW H} {ps : List MemPlace} (ht : P.underlying t = some (.slice e)) (he : P.underlying e = some (.int k)) (hc : P.cellsOf e = 1)
    (hv : Value.okWide P W .any base t v) (h : DataW.Trod enc P W 0 (fun _ => true) true t v d ps) : ∃ p n c, v = .slice p n c ∧ n ≤ c := by
  obtain ⟨a0, len, cap, rfl⟩ := okWide_slice ht hv
  obtain ⟨fuel, hf⟩ := h
  rcases open_ints ht he hc hf with ⟨hcs, hx⟩ | ⟨a, len', cap', zs, hcs, _, hl, hm, hz, hx, hcell, hwz⟩
  · simp [Value.cells] at hcs
    obtain ⟨rfl, rfl, rfl⟩ := hcs
    exact ⟨_, _, _, rfl, Nat.le_refl _⟩
  · simp [Value.cells] at hcs
    obtain ⟨rfl, rfl, rfl⟩ := hcs
    exact ⟨_, _, _, rfl, hl⟩
end
theorem Try.cells79 : Try.prog.cellsOf 79 = 1 := by kernel_rfl
section
variable {H : Type} {enc : TypeId × Value → H}
set_option maxRecDepth 100000 in
theorem open_u32 {W : World} {base : Nat} {v : Value} {d : DataW H} {ps : List MemPlace} (hv : Value.okWide Try.prog W .any base 44 v) (h : DataW.Trod enc Try.prog W 0 (fun _ => true) true 44 v d ps) :
    ∃ xs : List Int, IntsK .u32 W v xs ∧ (∃ p c, v = .slice p xs.length c ∧ xs.length ≤ c) ∧ xs.length ≤ maxLen ∧ Tr.U32 xs := by
  obtain ⟨xs, h1, h2, h3⟩ := open_ints2 Try.underlying44 Try.underlying79 Try.cells79 hv h
  obtain ⟨p, n, c, e, hnc⟩ := open_cap Try.underlying44 Try.underlying79 Try.cells79 hv h
  obtain ⟨q, c2, e2⟩ := h1.len
  rw [e] at e2
  injection e2 with _ e4 _
  subst e4
  refine ⟨xs, h1, ⟨p, c, e, hnc⟩, h2, fun x hx => ?_⟩
  have := h3 x hx
  simp only [Lit.wf, Bool.and_eq_true, decide_eq_true_eq] at this
  have e1 : IntKind.u32.min = 0 := by decide
  have e2 : IntKind.u32.max = 4294967295 := by decide
  omega
end
end Go.Proofs.Ytfhlllmicobafaa
/- Made, for an argument as it comes; what is made is small. -/
namespace Go.Proofs.Ytfhlllmicobafaa
open Go.RowKit
open Tr (Ev)
theorem made_o {w : World} {v : Value} {l : List Int} (h : IntsK .u32 w v l) (hs : ∃ p c, v = .slice p l.length c ∧ l.length ≤ c) (hl : l.length ≤ maxLen) (hu : Tr.U32 l) : Calls Try.prog 29 #[v] w fun e w' => ∃ v', e = .returned v' ∧ ERO w w' v' (Tr.made l) := by
  obtain ⟨p, c, rfl, hc⟩ := hs
  exact made_c h rfl hc hl hu
theorem small_w {t : List Ev} (h : ∀ e ∈ t, Tr.Small e) : EvW t := fun x hx => by
  have := h x hx
  unfold Tr.Small at this
  exact Wf.of (by omega) (by omega)
end Go.Proofs.Ytfhlllmicobafaa
/- The ranges of small numbers as arguments. -/
namespace Go.Proofs.Ytfhlllmicobafaa
open Go.RowKit Go.ChangeShapes
theorem u16_rng {n : Int} (h : (Lit.int .u16 n).wf = true) : 0 ≤ n ∧ n ≤ 65535 := by
  simp only [Lit.wf, Bool.and_eq_true, decide_eq_true_eq] at h
  have e1 : IntKind.u16.min = 0 := by decide
  have e2 : IntKind.u16.max = 65535 := by decide
  omega
theorem u8_rng {n : Int} (h : (Lit.int .u8 n).wf = true) : 0 ≤ n ∧ n ≤ 255 := by
  simp only [Lit.wf, Bool.and_eq_true, decide_eq_true_eq] at h
  have e1 : IntKind.u8.min = 0 := by decide
  have e2 : IntKind.u8.max = 255 := by decide
  omega
end Go.Proofs.Ytfhlllmicobafaa
