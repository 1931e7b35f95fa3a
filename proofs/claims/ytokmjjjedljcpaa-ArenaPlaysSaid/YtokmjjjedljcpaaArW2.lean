/- ArW2: texts for the statements of this seat: contracts of functions, walks, plain laws. Conditions: none. -/
import Derived.Test.YtokmjjjedljcpaaProg
import Derived.WalkKit
import Derived.WalkSpells
import Derived.WalkLawsBesides
import Derived.Test.YtokmjjjedljcpaaArModel
import Derived.Test.YtokmjjjedljcpaaArW1
set_option linter.all false
namespace Go.Proofs.Ytokmjjjedljcpaa
open Go.RowKit


set_option maxHeartbeats 400000 in
theorem put_freed (ab sb cap : Nat) (A : Ar) (v : Int) (k : Nat) (s : Sl) (w : World) (I : IsAr w ab sb cap A) (hf : A.freed = k) (hs : A.sl[k]? = some s) (ok : A.Ok) :
    Calls Try.prog 11 #[.pointer (some ⟨ab, 0, none⟩), .int .i64 v] w fun e w' => e = .returned (.tuple #[.int .i64 (4096 * (s.use + 1) + k), .int .i64 0]) ∧ 
      IsAr w' ab sb cap { A.fill k s v with freed := s.next } ∧ Kept (fun b => b = ab ∨ b = sb) w w' := by
  have hl : k < A.sl.length := by
    rcases Nat.lt_or_ge k A.sl.length with q | q
    · exact q
    · simp [List.getElem?_eq_none q] at hs
  have S := I.slot _ _ hs
  obtain ⟨hb1, hb2⟩ := ok.use s (List.mem_of_getElem? hs)
  obtain ⟨ht1, ht2⟩ := ok.tk
  have c0 := I.made
  have c1 := I.slots
  have c2 := I.freed
  have c4 := I.taken
  rw [hf] at c2
  have hm := ok.len
  have f1 := I.fza 2
  have f2 := I.fza 4
  have f3 := I.fzs (k * 4)
  have f4 := I.fzs (k * 4 + 1)
  have f5 := I.fzs (k * 4 + 2)
  have f6 := I.fzs (k * 4 + 3)
  have d1 := S.use
  have d2 := S.v
  have d3 := S.taken
  have d4 := S.next
  have hne := I.ne
  have hne' := I.ne.symm
  have HI := Lib.hid I
  have HS := Lib.hid hs
  have HF := Lib.hid hf
  clear I hs hf S ok
  go_enter Try.func11, Try.ntmps11
  go_wp2
  go_region
  go_wp2_with fail
  refine (handle_c ab sb cap A.sl.length k (s.use + 1) _ ?_ (by omega) (by omega) hm ?_ (by omega) (by omega)).mono ?_
  · go_simp
  · go_simp
  rintro e w' ⟨rfl, rfl⟩
  go_wp2
  go_ret2
  exact ⟨rfl, ((((HI.out.setFreed s.next).filled HS.out (s.use + 1) v (-1) true).setTaken (A.taken + 1)).drew),
    (((((Kept.refl _ w).setCell ⟨ab, 2, none⟩ _ (fun _ => .inl rfl)).filled sb _ _ _ _ _ _ _ _ (.inr rfl)).setCell ⟨ab, 4, none⟩ _ (fun _ => .inl rfl)).drew)⟩

end Go.Proofs.Ytokmjjjedljcpaa
