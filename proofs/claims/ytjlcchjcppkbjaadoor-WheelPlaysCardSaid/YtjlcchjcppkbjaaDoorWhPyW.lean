/- WhPyW: texts for the statements of this seat: contracts of functions, walks, plain laws. Conditions: none. -/
import Derived.Test.YtjlcchjcppkbjaaDoorWhPyYes
import Derived.Test.YtjlcchjcppkbjaaDoorWhPyNo
set_option linter.all false
/- WheelPlays. -/
namespace Go.Proofs.YtjlcchjcppkbjaaDoor
open Go.RowKit
variable {w : World}
set_option maxRecDepth 100000 in
theorem wheelPlays_w {v : Value} {l : List Sp} (hT : Tab w) (n now : Int) (hn : (Lit.int .i64 n).wf = true) (hl : Rows spC 4 w v l) (hm : l.length ≤ maxLen) (hwf : ∀ x ∈ l, x.wf) :
    Calls Tryd.prog 10 #[.int .i64 n, .int .i64 now, v] w fun e w' => e = .returned (.bool true) ∧ Kept (fun _ => False) w w' := by
  by_cases g1 : l.length > 80
  · have HWK := Lib.hid (works_c hT)
    obtain ⟨p, c, rfl⟩ := hl.len
    have d1 : decide ((80 : Int) < (l.length : Int)) = true := by simp; omega
    clear hT hl hwf hn
    go_enter Tryd.func10, Tryd.ntmps10
    go_wp2_with (go_at_call 13; refine HWK.out.mono ?_; rintro e w' ⟨rfl, K⟩; have HK := Lib.hid K; clear K)
    go_ret
    exact ⟨rfl, HK.out⟩
  by_cases g : (n < 0 ∨ 4096 < n) ∨ now < 0 ∨ 4611686018427387904 < now
  · exact plays_no hT n now g (i64_rng hn) hl (by omega) hwf
  · obtain ⟨m, rfl⟩ : ∃ m : Nat, n = (m : Int) := ⟨n.toNat, by omega⟩
    exact plays_yes hT m now (by omega) (by omega) (by omega) hl (by omega) hwf
end Go.Proofs.YtjlcchjcppkbjaaDoor
