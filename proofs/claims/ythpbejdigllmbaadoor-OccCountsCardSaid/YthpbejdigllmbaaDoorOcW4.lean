/- OcW4: texts for the statements of this seat: contracts of functions, walks, plain laws. Conditions: none. -/
import Derived.Test.YthpbejdigllmbaaDoorOcW1
import Derived.Test.YthpbejdigllmbaaDoorOcSl
import Derived.Test.YthpbejdigllmbaaDoorGeArr
namespace Go.Proofs.YthpbejdigllmbaaDoor
open Go.RowKit



theorem Tryd.size55 : (Tryd.prog.info? 55).map (·.size) = some 6 := by kernel_rfl
theorem Tryd.size56 : (Tryd.prog.info? 56).map (·.size) = some 42 := by kernel_rfl
theorem row_range {w : World} (T : Tbl w) (s : Nat) (hs : s < 7) : w.rangeAt 0 (s * 6) ((row6 s).map (Value.int .i64)) := by
  intro j v hv
  obtain ⟨hj, rfl⟩ := List.getElem?_eq_some_iff.1 hv
  simp [row6] at hj
  rw [T.leads _ (by omega)]
  simp [row6, leadN]
theorem row_cell (s k : Nat) (hk : k < 6) : ((row6 s).map (Value.int .i64)).toArray[k]? = some (.int .i64 (leadN s k)) := by
  simp [row6, hk]

def StepsPost (l : List Int) (e : Int) (w : World) (r : Ending) (w' : World) : Prop :=
  ∃ v, r = .returned (.tuple #[v, .int .i64 e]) ∧ w'.ownsRow w.heap.size 3 1 v l.length (l.map (Value.int .i64)) ∧ Kept (fun _ => False) w w'

theorem stepsUpTo_len (s k : Nat) : (stepsUpTo s k).length ≤ k := by
  unfold stepsUpTo
  rw [List.length_map]
  have := List.length_filter_le (fun j : Nat => !(leadN s j == -1)) (List.range k)
  simpa using this

set_option maxHeartbeats 1000000 in
theorem steps_yes (s : Int) (w : World) (T : Tbl w) (hs : isSt s = true) : Calls Tryd.prog 22 #[.int .i64 s] w (StepsPost (stepsUpTo s.toNat 6) 0 w) := by
  have HS := Lib.hid (isState_b true s · hs)
  have hb : 0 ≤ s ∧ s < 7 := by simpa [isSt] using hs
  obtain ⟨b1, b2⟩ := hb
  have HR := Lib.hid (row_range T s.toNat (by omega))
  have HI := Lib.hid (fun (k : Nat) (hk : k < 6) (w : World) => run_index1 (P := Tryd.prog) 55 3 6 _ k _ w Tryd.underlying55 Tryd.isAgg3 Tryd.sizeOf3 hk (row_cell s.toNat k hk))
  have HSZ : Hid ((Tryd.prog.info? 55).map (·.size) = some ((row6 s.toNat).map (Value.int .i64)).length) := Lib.hid (by rw [Tryd.size55]; rfl)
  generalize (row6 s.toNat).map (Value.int .i64) = R at HR HI HSZ
  clear hs T
  go_enter Tryd.func22, Tryd.ntmps22
  go_wp2_with (first | (go_at_call 43; refine (HS.out _).mono ?_; rintro e w' ⟨rfl, rfl⟩) | (with_reducible refine wpList_load_mid rfl 55 _ rfl 0 (s.toNat * 6) rfl R _ HR.out Tryd.underlying55 rfl HSZ.out ?_))
  go_loopw [4, 13] (fun v i wr => ∃ k : Nat, k ≤ 6 ∧ i = .int .i64 k ∧ wr.ownsRow w.heap.size 3 1 v (stepsUpTo s.toNat k).length ((stepsUpTo s.toNat k).map (Value.int .i64)) ∧ Kept (fun _ => False) w wr)
    (fun _ i _ => 6 - (intOf i).toNat)
  case atStart => exact ⟨0, by omega, rfl, World.ownsRow_nil _ _ _ _, Kept.refl _ _⟩
  case round =>
    obtain ⟨k, hk, rfl, hown, K⟩ := hrel
    have hla := K.size
    by_cases hlt : k < 6
    · have hix := HI.out k hlt
      have hsl := stepsUpTo_len s.toNat k
      by_cases hq : leadN s.toNat k = -1
      · have HQ := Lib.hid (stepsUpTo_no hq)
        have HQ2 := Lib.hid hq
        rw [hq] at hix
        clear hq
        go_wp2
        go_roundw
        case rel => exact ⟨k + 1, by omega, by go_num, by rw [HQ.out]; exact hown, K⟩
        case measure => simp [intOf]; omega
      · have HQ := Lib.hid (stepsUpTo_yes hq)
        have hqb : (leadN s.toNat k != -1) = true := by simpa using hq
        clear hq
        generalize leadN s.toNat k = q at hix hqb
        go_wp2_with (at_builtin; refine wpList_app1 el27 rfl _ _ rfl w.heap.size u4 (stepsUpTo s.toNat k).length ((stepsUpTo s.toNat k).map (Value.int .i64)) rfl hown rfl rfl ?c1 ?c2 ?c3 ?c4 ?_)
        case c1 => intro u hu; simp at hu; subst hu; rfl
        case c2 => unfold maxLen; omega
        case c3 => omega
        case c4 => omega
        intro g cap w3 hown3 K3
        have hown4 : w3.ownsRow w.heap.size 3 1 (.slice (some ⟨g, 0, none⟩) ((stepsUpTo s.toNat k).length + 1) cap) (stepsUpTo s.toNat (k + 1)).length ((stepsUpTo s.toNat (k + 1)).map (Value.int .i64)) := by
          rw [HQ.out, List.map_append, List.length_append]; exact hown3
        have KK := K.trans K3 (fun i hi h => by have := (ownsRow_block hown h).1; omega)
        have HX := Lib.hid (And.intro hown4 KK)
        clear hown hown3 hown4 K3 K KK hix hqb
        go_wp2
        go_roundw
        case rel => exact ⟨k + 1, by omega, by go_num, HX.out.1, HX.out.2⟩
        case measure => simp [intOf]; omega
    · obtain rfl : k = 6 := by omega
      go_wp2
      go_ret2
      exact ⟨_, rfl, hown, K⟩
theorem steps_no (s : Int) (w : World) (hs : isSt s = false) : Calls Tryd.prog 22 #[.int .i64 s] w (StepsPost [] 3 w) := by
  have HS := Lib.hid (isState_b false s · hs)
  clear hs
  go_enter Tryd.func22, Tryd.ntmps22
  go_wp2_with (go_at_call 43; refine (HS.out _).mono ?_; rintro e w' ⟨rfl, rfl⟩)
  go_ret2
  exact ⟨_, rfl, World.ownsRow_nil _ _ _ _, Kept.refl _ _⟩
theorem steps_c (s : Int) (l : List Int) (e : Int) (w : World) (T : Tbl w) (h : stepsF s = (l, e)) : Calls Tryd.prog 22 #[.int .i64 s] w (StepsPost l e w) := by
  unfold stepsF at h
  split at h
  · obtain ⟨rfl, rfl⟩ := Prod.mk.inj h; exact steps_yes s w T (by assumption)
  · rename_i hh; obtain ⟨rfl, rfl⟩ := Prod.mk.inj h; exact steps_no s w (by simpa using hh)
end Go.Proofs.YthpbejdigllmbaaDoor
