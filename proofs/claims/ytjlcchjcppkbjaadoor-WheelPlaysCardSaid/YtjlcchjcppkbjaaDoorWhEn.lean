/- WhEn: texts for the statements of this seat: contracts of functions, walks, plain laws. Conditions: none. -/
import Derived.LoopTactic
import Derived.Deep.Cut
import Derived.Deep.CutRange
import Derived.Deep.DeepCutAuto
import Derived.Test.YtjlcchjcppkbjaaDoorWhPlace
set_option linter.all false
/- The state between the loops of enter. -/
namespace Go.Proofs.YtjlcchjcppkbjaaDoor
open Go.RowKit
variable {w W w' w0 : World} {wb base : Nat} {V : Nat → Value} {Q : Nat → List Pt} {kd kd0 : Nat → Nat} {fr last : Int} {i : Nat} {t : Pt} {ts : List Pt} {rem rem' : Nat → Prop} {vl : Value} {l : List Pt}
/-- Nothing is in hand. -/
structure Ent (w0 : World) (kd0 : Nat → Nat) (wb base : Nat) (last fr : Int) (ts : List Pt) (rem : Nat → Prop) (W : World) : Prop where
  ex : ∃ V Q kd, Core W wb base V Q kd fr ∧ Mid last fr ts rem [] Q ∧ ∀ b, b < w0.heap.size → kd b = kd0 b
  low : ∀ o, o < 5 → o ≠ 1 → W.cell? ⟨wb, o, none⟩ = w0.cell? ⟨wb, o, none⟩
  K : Kept (fun b => kd0 b = 1 ∨ 5 ≤ kd0 b) w0 W
theorem Fill.done (h : Fill w0 kd0 wb base last fr ts rem vl l l.length W) : Ent w0 kd0 wb base last fr ts rem W := by
  obtain ⟨⟨V, Q, kd, C, M, hkd, -⟩, -, low, K⟩ := h
  rw [List.drop_length] at M
  exact ⟨⟨V, Q, kd, C, M, hkd⟩, low, K⟩
theorem Ent.weak (h : Ent w0 kd0 wb base last fr ts rem W) (hr : ∀ i, i < 257 → rem i → rem' i) : Ent w0 kd0 wb base last fr ts rem' W := by
  obtain ⟨⟨V, Q, kd, C, M, hkd⟩, low, K⟩ := h
  exact ⟨⟨V, Q, kd, C, M.weak (fun i hi q => .inr (hr i hi q)), hkd⟩, low, K⟩
/-- A list is taken out. -/
theorem Fill.start (C : Core W wb base V Q kd fr) (M : Mid last fr ts rem [] Q) (hkd : ∀ b, b < w0.heap.size → kd b = kd0 b) (low : ∀ o, o < 5 → o ≠ 1 → W.cell? ⟨wb, o, none⟩ = w0.cell? ⟨wb, o, none⟩) (K : Kept (fun b => kd0 b = 1 ∨ 5 ≤ kd0 b) w0 W)
    (hi : i < 257) (hr : ∀ j, j < 257 → j ≠ i → rem j → rem' j) (P : EmptyPost W wb base V Q kd fr i w') : Fill w0 kd0 wb base last fr ts rem' (V i) (Q i) 0 w' := by
  have kw := C.R.kw
  refine ⟨⟨_, _, kd, P.core, ?_, hkd, ?_, ?_, ?_⟩, ?_, fun o ho ho1 => (P.low o ho).trans (low o ho ho1), ?_⟩
  · rw [List.drop_zero]
    exact {
      inj := M.inj
      sub := fun j hj t ht => by
        by_cases e : j = i
        · subst e; rw [upd_at] at ht; simp at ht
        · rw [upd_ne _ _ e] at ht
          obtain ⟨h1, -, h3⟩ := M.sub j hj t ht
          refine ⟨h1, fun hm => e (C.R.dj j hj i hi t ht t hm rfl).1, ?_⟩
          rcases h3 with h3 | ⟨h3, h4⟩
          · exact .inl h3
          · exact .inr ⟨hr j hj e h3, h4⟩
      all := fun t ht => by
        rcases M.all t ht with q | ⟨j, hj, q⟩
        · simp at q
        · by_cases e : j = i
          · subst e; exact .inl q
          · exact .inr ⟨j, hj, by rw [upd_ne _ _ e]; exact q⟩
      hnd := fun t ht => (M.sub i hi t ht).1
      nd := C.R.nd i hi
      rng := M.rng }
  · intro j hj b hb e
    by_cases e2 : j = i
    · subst e2; rw [upd_at] at hb; simp [Value.ownBlock] at hb
    · rw [upd_ne _ _ e2] at hb
      have h1 := C.R.kV j hj b hb
      have h2 := C.R.kV i hi b e
      omega
  · intro t ht
    rw [List.drop_zero] at ht
    have h1 := C.R.kT i hi t ht
    obtain ⟨sl, T, -⟩ := C.R.tm i hi t ht
    exact ⟨h1, _, sl, T.kept P.K (fun q => by rw [q] at h1; omega)⟩
  · intro b hb
    have h2 := C.R.kV i hi b hb
    omega
  · exact ownsRow_kept (C.R.row i hi) P.K (fun b _ hb q => by have h2 := C.R.kV i hi b hb; rw [q] at h2; omega)
  · exact K.trans P.K (fun b hb (q : b = wb) => by rw [← hkd b hb, q, kw]; omega)
theorem Fill.len (h : Fill w0 kd0 wb base last fr ts rem vl l 0 W) : l.length ≤ ts.length := by
  obtain ⟨⟨V, Q, kd, C, M, -⟩, -⟩ := h
  rw [List.drop_zero] at M
  exact len_sub (List.Pairwise.of_map Pt.b (fun a b h e => h (by rw [e])) M.nd) M.hnd
/-- What is far is taken out. -/
theorem Core.takeFar (C : Core W wb base V Q kd fr) : EmptyPost W wb base V Q kd fr 256 (W.setCell ⟨wb, 265, none⟩ (.slice none 0 0)) := by
  have R := C.R.clear (i := 256) (by omega)
  have e : off 256 = 265 := rfl
  rw [e] at R
  refine ⟨⟨R, (C.U.set_off (o := 265) (by omega) _).far _, fun o => by rw [World.frozen?_setCell]; exact C.fz o, ?_⟩, (Kept.refl (fun b => b = wb) W).setCell _ _ (fun _ => rfl), fun o ho => ?_⟩
  · rw [cell_set_off _ _ _ _ _ (by omega)]; exact C.fr
  · rw [cell_set_off _ _ _ _ _ (by omega)]
/-- The next second is written. -/
theorem Core.setFr (C : Core w wb base V Q kd last) (x : Int) : Core (w.setCell ⟨wb, 1, none⟩ (.int .i64 x)) wb base V Q kd x :=
  ⟨C.R.setLow (by omega) _, C.U.set_off (by omega) _, fun o => by rw [World.frozen?_setCell]; exact C.fz o, cell_set_at _ C.fr⟩
/-- All timers stand where they belong. -/
abbrev Placed (fr : Int) (ts : List Pt) (Q : Nat → List Pt) : Prop := Mid fr fr ts (fun _ => False) [] Q
def remAt (last fr : Int) (L : Nat) (i : Nat) : Prop := (L = 4 ∧ i = 256 ∧ last / 16777216 ≠ fr / 16777216) ∨ (3 ≤ L ∧ i = 64 * 3 + slt 3 fr) ∨ (2 ≤ L ∧ i = 64 * 2 + slt 2 fr) ∨ (1 ≤ L ∧ i = 64 * 1 + slt 1 fr)
theorem Mid.enter (M : Placed last ts Q) (h0 : 0 ≤ last) (h1 : last ≤ fr) (h2 : ∀ t ∈ ts, fr ≤ t.x.at_) : Mid last fr ts (remAt last fr 4) [] Q where
  inj := M.inj
  sub := fun i hi t ht => by
    obtain ⟨a, b, c⟩ := M.sub i hi t ht
    refine ⟨a, b, ?_⟩
    have e : i = pos last t.x.at_ := c.elim id (fun h => h.1.elim)
    rcases pos_moves h0 h1 (h2 t a) with q | ⟨q, q2⟩ | q | q | q
    · exact .inl (e.trans q)
    · exact .inr ⟨.inl ⟨rfl, e.trans q, q2⟩, e⟩
    · exact .inr ⟨.inr (.inl ⟨by omega, e.trans q⟩), e⟩
    · exact .inr ⟨.inr (.inr (.inl ⟨by omega, e.trans q⟩)), e⟩
    · exact .inr ⟨.inr (.inr (.inr ⟨by omega, e.trans q⟩)), e⟩
  all := M.all
  hnd := M.hnd
  nd := M.nd
  rng := fun t ht => ⟨h2 t ht, (M.rng t ht).2⟩
theorem Mid.end_ (M : Mid last fr ts (remAt last fr 0) [] Q) : Placed fr ts Q where
  inj := M.inj
  sub := fun i hi t ht => by
    obtain ⟨a, b, c⟩ := M.sub i hi t ht
    refine ⟨a, b, .inl ?_⟩
    rcases c with c | ⟨c, -⟩
    · exact c
    · unfold remAt at c; omega
  all := M.all
  hnd := M.hnd
  nd := M.nd
  rng := M.rng
/-- What enter leaves. -/
structure EnterPost (w : World) (wb base : Nat) (kd : Nat → Nat) (fr : Int) (ts : List Pt) (w' : World) : Prop where
  ex : ∃ V' Q' kd', Core w' wb base V' Q' kd' fr ∧ Placed fr ts Q' ∧ ∀ b, b < w.heap.size → kd' b = kd b
  low : ∀ o, o < 5 → o ≠ 1 → w'.cell? ⟨wb, o, none⟩ = w.cell? ⟨wb, o, none⟩
  K : Kept (fun b => kd b = 1 ∨ 5 ≤ kd b) w w'
theorem Ent.post (h : Ent w kd wb base last fr ts (remAt last fr 0) w') : EnterPost w wb base kd fr ts w' := by
  obtain ⟨⟨V, Q, kd', C, M, h1⟩, low, K⟩ := h
  exact ⟨⟨V, Q, kd', C, M.end_, h1⟩, low, K⟩
/-- A list's value. -/
theorem own_ptr {w : World} {base n : Nat} {v : Value} {l : List Pt} (h : w.ownsRow base 90 1 v n (l.map ptr)) {k : Nat} {t : Pt} (hk : l[k]? = some t) : ∃ g c, v = .slice (some ⟨g, 0, none⟩) n c ∧ w.cell? ⟨g, k, none⟩ = some (ptr t) ∧ g < w.heap.size := by
  have hlen := h.1
  rw [List.length_map] at hlen
  have hkn : k < n := by have := (List.getElem?_eq_some_iff.1 hk).1; omega
  rcases h.2 with ⟨q, h0⟩ | ⟨g, cap, cur, q, h1, h2, h3, h4⟩
  · omega
  · subst q
    refine ⟨g, cap, rfl, ?_, (Array.getElem?_eq_some_iff.1 h2).1⟩
    rw [h.cellAt k (by omega), List.getElem?_map, hk]
    rfl
theorem own_sl {w : World} {base n : Nat} {v : Value} {xs : List Value} (h : w.ownsRow base 90 1 v n xs) : ∃ p c, v = .slice p n c := by
  rcases h.2 with ⟨q, h0⟩ | ⟨g, cap, cur, q, -⟩
  · exact ⟨none, 0, by rw [q, h0]⟩
  · exact ⟨_, cap, q⟩
end Go.Proofs.YtjlcchjcppkbjaaDoor
/- enter: a second becomes the next one. -/
namespace Go.Proofs.YtjlcchjcppkbjaaDoor
open Go.RowKit
variable {w : World} {wb base : Nat} {V : Nat → Value} {Q : Nat → List Pt} {kd : Nat → Nat} {last : Int} {ts : List Pt}
set_option maxRecDepth 100000 in
set_option maxHeartbeats 4000000 in
theorem enter_c (C : Core w wb base V Q kd last) (M : Placed last ts Q) (fr : Int) (h0 : 0 ≤ last) (h1 : last ≤ fr) (h2 : fr ≤ 4611686018427387905) (h3 : ∀ t ∈ ts, fr ≤ t.x.at_) (hts : ts.length ≤ 1000000) :
    Calls Tryd.prog 43 #[.pointer (some ⟨wb, 0, none⟩), .int .i64 fr] w fun e w' => e = .returned (.tuple #[]) ∧ EnterPost w wb base kd fr ts w' := by
  have hl0 : 0 ≤ fr := by omega
  have cf := C.fr
  have lw := C.R.ltw
  have fz1 := C.fz 1
  have HTS := Lib.hid hts
  have HE0 : Hid (Ent w kd wb base last fr ts (remAt last fr 4) (w.setCell ⟨wb, 1, none⟩ (.int .i64 fr))) := Lib.hid ⟨⟨V, Q, kd, C.setFr fr, M.enter h0 h1 h3, fun _ _ => rfl⟩, fun o ho ho1 => cell_set_off _ _ _ _ _ ho1, (Kept.refl _ w).setCell _ _ (fun _ => .inl C.R.kw)⟩
  have hcf : ∀ (W : World), Ent w kd wb base last fr ts (remAt last fr 4) W → True := fun _ _ => trivial
  clear C M h3 hts hcf
  go_enter Tryd.func43, Tryd.ntmps43
  go_upto_if 23 with fail
  go_cut [] from 5 to 40 (fun wz => Ent w kd wb base last fr ts (remAt last fr 3) wz)
  case first =>
    by_cases hq : last / 16777216 = fr / 16777216
    · have d1 : (last / 16777216 != fr / 16777216) = false := by simpa using hq
      have d2 : (last / 16777216 == fr / 16777216) = true := by simpa using hq
      have HF : Hid (Ent w kd wb base last fr ts (remAt last fr 3) (w.setCell ⟨wb, 1, none⟩ (.int .i64 fr))) := Lib.hid (HE0.out.weak fun i hi q => by unfold remAt at q ⊢; omega)
      clear hq
      go_wp2_with fail
      go_meet
      exact HF.out
    · have d1 : (last / 16777216 != fr / 16777216) = true := by simpa using hq
      have d2 : (last / 16777216 == fr / 16777216) = false := by simpa using hq
      clear hq
      obtain ⟨⟨V1, Q1, kd1, C1, M1, hkd1⟩, low1, K1⟩ := HE0.out
      have c265 := C1.R.cell 256 (by omega)
      rw [show off 256 = 265 from rfl] at c265
      have f265 := C1.fz 265
      have l265 := C1.R.ltw
      have HF := Lib.hid (Fill.start C1 M1 hkd1 low1 K1 (i := 256) (rem' := remAt last fr 3) (by omega) (fun j hj hne q => by unfold remAt at q ⊢; omega) C1.takeFar)
      generalize V1 256 = v at c265 HF
      generalize Q1 256 = l at HF
      obtain ⟨p, c, rfl⟩ : ∃ p c, v = .slice p l.length c := own_sl HF.out.row
      clear C1 M1 hkd1 low1 K1
      simp only [d1]
      clear d1 d2
      go_wp2_with fail
      have hll : l.length ≤ 1000000 := Nat.le_trans HF.out.len HTS.out
      go_loopw [33] (fun s33 wr => ∃ k : Nat, k ≤ l.length ∧ s33 = .int .i64 k ∧ Fill w kd wb base last fr ts (remAt last fr 3) (.slice p l.length c) l k wr) (fun s33 _ => l.length - (intOf s33).toNat)
      case atStart => exact ⟨0, Nat.zero_le _, rfl, HF.out⟩
      case round =>
        obtain ⟨k, hk, rfl, hrel⟩ := hrel
        have HR := Lib.hid hrel
        by_cases hlt : k < l.length
        · obtain ⟨t, ht⟩ : ∃ t, l[k]? = some t := ⟨_, List.getElem?_eq_getElem hlt⟩
          obtain ⟨g, c', hv, hcell, hg⟩ := own_ptr HR.out.row ht
          injection hv with hv1 hv2 hv3
          subst hv1
          have hcell' : wr.cell? ⟨g, k, none⟩ = some (.pointer (some ⟨t.b, 0, none⟩)) := hcell
          have HC := Lib.hid (HR.out.step hl0 h2 HTS.out ht)
          have j1 : (0 : Int) ≤ (k : Int) := by omega
          have j2 : (k : Int) < (l.length : Int) := by omega
          clear ht hcell hv2 hv3 hrel HF
          go_wp2_with (go_at_call 41; refine HC.out.mono ?_; rintro e w2 ⟨rfl, hfill⟩)
          go_roundw
          case rel => exact ⟨k + 1, by omega, by go_num, hfill⟩
          case measure => simp [intOf]; omega
        · obtain rfl : k = l.length := by omega
          have HD := Lib.hid HR.out.done
          clear hrel
          go_wp2_with fail
          go_meet
          exact HD.out
  case rest =>
    have HB := Lib.hid hcut
    clear hcut HE0 cf lw fz1 h1
    go_wp2_with fail
    go_loopw [8] (fun s8 wr => ∃ L : Nat, L ≤ 3 ∧ s8 = .int .i64 L ∧ Ent w kd wb base last fr ts (remAt last fr L) wr) (fun s8 _ => (intOf s8).toNat)
    case atStart => exact ⟨3, Nat.le_refl _, rfl, HB.out⟩
    case round =>
      obtain ⟨L, hL, rfl, hrel⟩ := hrel
      obtain ⟨wo, rfl⟩ : ∃ wo : World, wo = wr := ⟨_, rfl⟩
      have HR := Lib.hid hrel
      clear hrel HB
      by_cases hL0 : L = 0
      · subst hL0
        have HP := Lib.hid HR.out.post
        go_wp2_with fail
        go_end0
        exact ⟨rfl, HP.out⟩
      · obtain ⟨⟨V1, Q1, kd1, C1, M1, hkd1⟩, low1, K1⟩ := HR.out
        have hs := slt_lt L fr
        have HI : Hid (∀ W, Calls Tryd.prog 61 #[.int .i64 fr, .int .i64 L] W fun e w' => e = .returned (.int .i64 (slt L fr)) ∧ w' = W) := Lib.hid fun W => index_c fr L (by omega) hl0 h2 W
        have HE := Lib.hid (empty_c C1 (L := L) (s := slt L fr) (by omega) hs)
        have HF0 : Hid (∀ w', EmptyPost wo wb base V1 Q1 kd1 fr (64 * L + slt L fr) w' → Fill w kd wb base last fr ts (remAt last fr (L - 1)) (V1 (64 * L + slt L fr)) (Q1 (64 * L + slt L fr)) 0 w') := Lib.hid fun w' P =>
          Fill.start C1 M1 hkd1 low1 K1 (by omega) (fun j hj hne q => by
            unfold remAt at q ⊢
            rcases q with q | q | q | q
            · omega
            · by_cases e : L = 3
              · subst e; exact absurd q.2 hne
              · omega
            · by_cases e : L = 2
              · subst e; exact absurd q.2 hne
              · right; right; left; omega
            · by_cases e : L = 1
              · subst e; exact absurd q.2 hne
              · right; right; right; omega) P
        have hrow := C1.R.row (64 * L + slt L fr) (by omega)
        generalize hv : V1 (64 * L + slt L fr) = v at HE HF0 hrow
        generalize hq : Q1 (64 * L + slt L fr) = l at HF0 hrow
        obtain ⟨p, c, rfl⟩ := own_sl hrow
        have HEE : Hid (Calls Tryd.prog 44 #[.pointer (some ⟨wb, 0, none⟩), .int .i64 L, .int .i64 (slt L fr)] wo fun e w' => e = .returned (.slice p l.length c) ∧ Fill w kd wb base last fr ts (remAt last fr (L - 1)) (.slice p l.length c) l 0 w') := Lib.hid (HE.out.mono fun e w' h => ⟨h.1, HF0.out w' h.2⟩)
        have g1 : (0 : Int) < (L : Int) := by omega
        clear C1 M1 hkd1 low1 K1 HE HF0 hrow hv hq V1 Q1 kd1
        generalize slt L fr = s at HI HEE hs
        go_wp2_with (first | (go_at_call 61; refine (HI.out _).mono ?_; rintro e w' ⟨rfl, rfl⟩) | (go_at_call 44; refine HEE.out.mono ?_; rintro e w2 ⟨rfl, hfill⟩))
        have HF := Lib.hid hfill
        have hll : l.length ≤ 1000000 := Nat.le_trans HF.out.len HTS.out
        clear hfill HEE HI
        go_loopw [52] (fun s33 wr => ∃ k : Nat, k ≤ l.length ∧ s33 = .int .i64 k ∧ Fill w kd wb base last fr ts (remAt last fr (L - 1)) (.slice p l.length c) l k wr) (fun s33 _ => l.length - (intOf s33).toNat)
        case atStart => exact ⟨0, Nat.zero_le _, rfl, HF.out⟩
        case round =>
          obtain ⟨k, hk, rfl, hrel⟩ := hrel
          have HR2 := Lib.hid hrel
          by_cases hlt : k < l.length
          · obtain ⟨t, ht⟩ : ∃ t, l[k]? = some t := ⟨_, List.getElem?_eq_getElem hlt⟩
            obtain ⟨g, c', hv, hcell, hg⟩ := own_ptr HR2.out.row ht
            injection hv with hv1 hv2 hv3
            subst hv1
            have hcell' : wr.cell? ⟨g, k, none⟩ = some (.pointer (some ⟨t.b, 0, none⟩)) := hcell
            have HC := Lib.hid (HR2.out.step hl0 h2 HTS.out ht)
            have j1 : (0 : Int) ≤ (k : Int) := by omega
            have j2 : (k : Int) < (l.length : Int) := by omega
            clear ht hcell hv2 hv3 hrel HF
            go_wp2_with (go_at_call 41; refine HC.out.mono ?_; rintro e w2 ⟨rfl, hfill⟩)
            go_roundw
            case rel => exact ⟨k + 1, by omega, by go_num, hfill⟩
            case measure => simp [intOf]; omega
          · obtain rfl : k = l.length := by omega
            have HD := Lib.hid HR2.out.done
            clear hrel
            go_wp2_with fail
            go_roundw
            case rel => exact ⟨L - 1, by omega, by go_num, HD.out⟩
            case measure => simp [intOf]; omega
end Go.Proofs.YtjlcchjcppkbjaaDoor
