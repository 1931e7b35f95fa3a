/- WhFill: texts for the statements of this seat: contracts of functions, walks, plain laws. Conditions: none. -/
import Derived.StillTailTactics
import Derived.Test.YtjlcchjcppkbjaaDoorWhFill0
set_option linter.all false
/- filled: a wheel behind a script. -/
namespace Go.Proofs.YtjlcchjcppkbjaaDoor
open Go.RowKit
variable {w w' : World} {F : Nat → Prop}
set_option maxRecDepth 100000 in
set_option maxHeartbeats 4000000 in
theorem filled_c {v : Value} {l : List Sp} {now : Int} (hT : Tab w) (hl : Rows spC 4 w v l) (hll : l.length ≤ 1000) (hwf : ∀ x ∈ l, x.wf) (h2 : 0 ≤ now) (h3 : now ≤ 4611686018427387904) (hF : ∀ b, F b → b < w.heap.size) :
    Calls Tryd.prog 23 #[.int .i64 now, v] w fun e w' => ∃ B, e = .returned (.pointer (some ⟨B, 0, none⟩)) ∧ Wl w w' F B ((Wh.new 60 now).run l) := by
  have HN := Lib.hid (l_new (F := F) (n := 60) (now := now) hT (Kept.refl _ w) hF (by omega) (by omega) h2 h3)
  have HL := Lib.hid hl
  have HWF := Lib.hid hwf
  obtain ⟨p, c, rfl⟩ := hl.len
  clear hT hl hwf hF
  go_enter Tryd.func23, Tryd.ntmps23
  go_wp2_with (go_at_call 14; refine HN.out.mono ?_; rintro e w1 ⟨B, rfl, h, -⟩; have H0 := Lib.hid h; clear h)
  go_loopw [7] (fun s7 wr => ∃ (k : Nat), k ≤ l.length ∧ s7 = .int .i64 k ∧ Wl w wr F B ((Wh.new 60 now).run (l.take k))) (fun s7 _ => l.length - (intOf s7).toNat)
  case atStart => exact ⟨0, Nat.zero_le _, rfl, H0.out⟩
  case round =>
    obtain ⟨k, hk, rfl, hW⟩ := hrel
    have HW := Lib.hid hW
    clear hW
    by_cases hlt : k < l.length
    · obtain ⟨x, hx⟩ : ∃ x, l[k]? = some x := ⟨_, List.getElem?_eq_getElem hlt⟩
      obtain ⟨b, off, c', hv, ⟨a0, a1, a2, a3⟩, bl⟩ := sp_at HL.out hx
      injection hv with hv _ hc
      subst hv hc
      have K := HW.out.kept0
      have f0 := (K.cell (a := ⟨b, off + k * 4, none⟩) bl (fun h => h)).trans a0
      have f1 := (K.cell (a := ⟨b, off + k * 4 + 1, none⟩) bl (fun h => h)).trans a1
      have f2 := (K.cell (a := ⟨b, off + k * 4 + 2, none⟩) bl (fun h => h)).trans a2
      have f3 := (K.cell (a := ⟨b, off + k * 4 + 3, none⟩) bl (fun h => h)).trans a3
      have blr := Nat.lt_of_lt_of_le bl K.size
      have j1 : (0 : Int) ≤ (k : Int) := by omega
      have j2 : (k : Int) < (l.length : Int) := by omega
      have hwx := HWF.out x (List.mem_of_getElem? hx)
      unfold Sp.wf at hwx
      have HST := Lib.hid (run_take (W := Wh.new 60 now) hx)
      have HSQ : Hid (((Wh.new 60 now).run (l.take k)).seq ≤ 1000000000) := Lib.hid (by
        have h1 := (run_sl (l.take k) (Wh.new 60 now)).1
        have h2 : (Wh.new 60 now).seq = 0 := rfl
        rw [List.length_take] at h1
        omega)
      clear a0 a1 a2 a3 K hx
      generalize (Wh.new 60 now).run (l.take k) = W at HW HST HSQ
      have hgo : ∀ (wr' : World), Wl w wr' F B (W.step x) → Wl w wr' F B ((Wh.new 60 now).run (l.take (k + 1))) := fun wr' h => by rw [HST.out]; exact h
      have HGO := Lib.hid hgo
      clear hgo HST
      obtain ⟨d, at_, id, hd⟩ := x
      dsimp only at f0 f1 f2 f3 hwx
      by_cases d0 : d = 0
      · subst d0
        have hst : W.step ⟨0, at_, id, hd⟩ = (W.add at_ id).1 := rfl
        rw [hst] at HGO
        obtain ⟨W3, hd3, er3, hp⟩ : ∃ W3 hd3 er3, W.add at_ id = (W3, hd3, er3) := ⟨_, _, _, rfl⟩
        rw [hp] at HGO
        have HA : Hid (∀ wr', Kept (fun _ => False) wr wr' → Calls Tryd.prog 15 #[.pointer (some ⟨B, 0, none⟩), .int .i64 at_, .int .i64 id] wr' fun e w' => e = .returned (.tuple #[.int .i64 hd3, .int .i64 er3]) ∧ Wl w w' F B W3 ∧ Kept (fun b => ¬ F b) wr' w') := Lib.hid fun wr' K => l_add (HW.out.same K) HSQ.out hp
        clear hp hst
        go_wp2_with fail
        refine wp_region_still_tail 11 (by kernel_rfl) (by kernel_rfl) ?_
        simp only [List.take_succ_cons, List.take_zero, List.drop_succ_cons, List.drop_zero]
        change wpStill _ _ (World.drew _) (fun a' => wpList _ _ _ _ a' (World.drew _)) _ _
        have e1 : wr.drew.cell? ⟨b, off + k * 4 + 1, none⟩ = some (.int .i64 at_) := f1
        have e2 : wr.drew.cell? ⟨b, off + k * 4 + 2, none⟩ = some (.int .i64 id) := f2
        have el : b < wr.drew.heap.size := blr
        have HB := Lib.hid (HA.out _ (Kept.refl _ wr).drew)
        clear f0 f1 f2 f3 blr
        generalize wr.drew = W4 at e1 e2 el HB ⊢
        iterate 11 still_step
        refine wpStill_nil ?_
        go_wp2_with (go_at_call 15; refine HB.out.mono ?_; rintro e w5 ⟨rfl, h5, -⟩; have HC := Lib.hid h5; clear h5)
        go_roundw
        case rel => exact ⟨k + 1, by omega, by go_num, HGO.out _ HC.out⟩
        case measure => simp [intOf]; omega
      · by_cases d1 : d = 1
        · subst d1
          have hst : W.step ⟨1, at_, id, hd⟩ = (W.cancel hd).1 := rfl
          rw [hst] at HGO
          obtain ⟨W3, er3, hp⟩ : ∃ W3 er3, W.cancel hd = (W3, er3) := ⟨_, _, rfl⟩
          rw [hp] at HGO
          have HB := Lib.hid (l_cancel HW.out hwx.2.2.2.1 hwx.2.2.2.2 hp)
          clear hp hst d0
          go_wp2_with (go_at_call 20; refine HB.out.mono ?_; rintro e w5 ⟨rfl, h5, -⟩; have HC := Lib.hid h5; clear h5)
          go_roundw
          case rel => exact ⟨k + 1, by omega, by go_num, HGO.out _ HC.out⟩
          case measure => simp [intOf]; omega
        · by_cases d2 : d = 2
          · subst d2
            have hst : W.step ⟨2, at_, id, hd⟩ = (W.advance at_).1 := rfl
            rw [hst] at HGO
            obtain ⟨W3, l3, er3, hp⟩ : ∃ W3 l3 er3, W.advance at_ = (W3, l3, er3) := ⟨_, _, _, rfl⟩
            rw [hp] at HGO
            have HB := Lib.hid (l_advance HW.out hp)
            clear hp hst d0 d1
            go_wp2_with (go_at_call 17; refine HB.out.mono ?_; rintro e w5 ⟨v5, rfl, -, h5, -⟩; have HC := Lib.hid (Wl.mono h5 (fun b q => .inl q) : Wl w w5 F B W3); clear h5)
            go_roundw
            case rel => exact ⟨k + 1, by omega, by go_num, HGO.out _ HC.out⟩
            case measure => simp [intOf]; omega
          · have hst : W.step ⟨d, at_, id, hd⟩ = W := by unfold Wh.step; rw [if_neg d0, if_neg d1, if_neg d2]
            rw [hst] at HGO
            have q0 : (d == 0) = false := by simpa using d0
            have q1 : (d == 1) = false := by simpa using d1
            have q2 : (d == 2) = false := by simpa using d2
            clear hst d0 d1 d2
            go_wp2_with fail
            go_roundw
            case rel => exact ⟨k + 1, by omega, by go_num, HGO.out _ HW.out⟩
            case measure => simp [intOf]; omega
    · obtain rfl : k = l.length := by omega
      have HX := HW.out
      rw [List.take_length] at HX
      have HX := Lib.hid HX
      go_wp2_with fail
      go_ret
      exact ⟨B, rfl, HX.out⟩
end Go.Proofs.YtjlcchjcppkbjaaDoor
