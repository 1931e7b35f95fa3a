/- ArRPut: texts for the statements of this seat: contracts of functions, walks, plain laws. Conditions: none. -/
import Derived.Test.YtokmjjjedljcpaaArRPut0
set_option linter.all false
/- Put of the document's arena: the walk. -/
namespace Go.Proofs.Ytokmjjjedljcpaa
open Go.RowKit
set_option maxHeartbeats 4000000 in
theorem rput_freed {w : World} {base rb : Nat} {v1 v2 v3 v4 : Value} {a : AA} (h : IsR w base rb v1 v2 v3 v4 a) (ok : AOk a) {k : Nat} {s : U} {r : List Nat} (hf : a.fl = k :: r) (hs : a.sl[k]? = some s) (v : Int) :
    Calls Try.prog 20 #[.pointer (some ⟨rb, 0, none⟩), .int .i64 v] w fun e w' => e = .returned (.tuple #[.int .i64 (4096 * (s.use + 1) + k), .int .i64 0]) ∧ RPost w w' base rb v1 v2 v3 v4 (a.fill k s v r) := by
  have HI := Lib.hid h
  obtain ⟨s', hs', -, hu1, hu2⟩ := ok.fl k (by rw [hf]; simp)
  rw [hs] at hs'
  injection hs' with hs'
  subst hs'
  have hu := ok.use k s hs
  have hl := ok.len
  have hfl := ok.fll
  obtain ⟨p1, q1, hv1⟩ := own_v h.uses
  obtain ⟨p2, q2, hv2⟩ := own_v h.tks
  obtain ⟨p3, q3, hv3⟩ := own_v h.vs
  subst hv1 hv2 hv3
  obtain ⟨q, hq⟩ : ∃ q, r.length = q := ⟨_, rfl⟩
  have hrev : a.fl.reverse.map (fun (k : Nat) => Value.int .i64 k) = (r.reverse.map fun (k : Nat) => Value.int .i64 k) ++ [.int .i64 (k : Nat)] := by rw [hf, List.reverse_cons, List.map_append]; rfl
  have hfll : a.fl.length = q + 1 := by rw [hf, List.length_cons, hq]
  rw [hfll] at hfl
  have hfrd := h.frd
  rw [hrev, hfll] at hfrd
  obtain ⟨g4, c4, hv4, hc4, d0, d1, -, hg4, -⟩ := own_cell hfrd (k := q) (u := .int .i64 (k : Nat)) (by rw [List.getElem?_append_right (by simp [hq])]; simp [hq])
  subst hv4
  have HFR : Hid (∀ W, Kept (fun _ => False) w W → IsR (W.setCell ⟨rb, 4, none⟩ (.slice (some ⟨g4, 0, none⟩) q c4)) base rb (.slice p1 a.sl.length q1) (.slice p2 a.sl.length q2) (.slice p3 a.sl.length q3) (.slice (some ⟨g4, 0, none⟩) q c4) { a with fl := r }) := Lib.hid fun W K => by
    refine (HI.out.same K).setFreed (fl' := r) ?_ (fun b q => .inl (by simpa [Value.ownBlock] using q))
    have h2 := own_firstN (ownsRow_kept hfrd K (fun _ _ _ h => h)) (m := q) (by omega)
    rw [List.take_left' (by simp [hq])] at h2
    rw [hq]
    exact h2
  obtain ⟨n, hn⟩ : ∃ n, a.sl.length = n := ⟨_, rfl⟩
  have HN := Lib.hid hn
  rw [hn] at hl HI HFR ⊢
  have HS := Lib.hid hs
  have x4 := HI.out.hd.get (j := 4) rfl
  have x1 := HI.out.hd.get (j := 1) rfl
  have xl := HI.out.hd.lt
  have xf := HI.out.hd.fz 4
  have i1 : (0 : Int) ≤ (q : Int) := by omega
  have i2 : (q : Int) < (q : Int) + 1 := by omega
  have i3 : (q : Int) + 1 - 1 = (q : Int) := by omega
  have i4 : IntKind.i64.wrap (q : Int) = (q : Int) := IntWalk.i64_in _ (by omega)
  have i5 : (q : Int) ≤ (c4 : Int) := by omega
  clear h hs hf hrev hfrd hfll hq hn ok
  go_enter Try.func20, Try.ntmps20
  go_wp2_with (go_at_call 32; refine (rmade_c HI.out).mono ?_; rintro e w' ⟨rfl, rfl⟩)
  go_quiet (fail)
  have HKW := Lib.hid ((Kept.refl (fun _ => False) w).drewN nq)
  have y4 : (w.drewN nq).cell? ⟨rb, 4, none⟩ = some (.slice (some ⟨g4, 0, none⟩) (q + 1) c4) := x4
  have yl : rb < (w.drewN nq).heap.size := xl
  have yf : (w.drewN nq).frozen? ⟨rb, 4, none⟩ = false := xf
  generalize w.drewN nq = W at HKW y4 yl yf ⊢
  go_wp2_with fail
  go_region
  have HX : Hid (IsR ((W.setCell ⟨rb, 4, none⟩ (.slice (some ⟨g4, 0, none⟩) q c4)).drew) base rb (.slice p1 n q1) (.slice p2 n q2) (.slice p3 n q3) (.slice (some ⟨g4, 0, none⟩) q c4) { a with fl := r }) := Lib.hid ((HFR.out W HKW.out).same (Kept.refl _ _).drew)
  have HKX : Hid (Kept (FR rb (.slice p1 n q1) (.slice p2 n q2) (.slice p3 n q3) (.slice (some ⟨g4, 0, none⟩) (q + 1) c4)) w ((W.setCell ⟨rb, 4, none⟩ (.slice (some ⟨g4, 0, none⟩) q c4)).drew)) := Lib.hid (((HKW.out.mono (fun _ _ q => q.elim)).trans (kept_set W rb 4 _) (fun b _ (q : b = rb) => .inl q)).drew)
  have HBX : Hid (∀ b, (Value.slice (some ⟨g4, 0, none⟩) q c4).ownBlock = some b → (Value.slice (some ⟨g4, 0, none⟩) (q + 1) c4).ownBlock = some b ∨ w.heap.size ≤ b) := Lib.hid fun b z => .inl (by simpa [Value.ownBlock] using z)
  clear y4 yl yf x4 x1 xl xf HFR HKW
  generalize (W.setCell ⟨rb, 4, none⟩ (.slice (some ⟨g4, 0, none⟩) q c4)).drew = WX at HX HKX ⊢
  obtain ⟨g1, g2, g3, e1, e2, e3, hkn, ⟨m1, ml, m2, m3⟩, ⟨m4, m5, m6⟩, ⟨m7, m8, m9⟩, hcall, hpost⟩ := filled HX.out HN.out hl HS.out (by omega) v HKX.out HBX.out
  subst e1 e2 e3
  have HCALL := Lib.hid hcall
  have HPOST := Lib.hid hpost
  have j1 : (0 : Int) ≤ (k : Int) := by omega
  have j2 : (k : Int) < (n : Int) := by omega
  have j3 : wrap64 (s.use + 1) = s.use + 1 := IntWalk.wrap64_in _ (by omega)
  have j4 : IntKind.i64.wrap (s.use + 1) = s.use + 1 := IntWalk.i64_in _ (by omega)
  clear hcall hpost HX HKX HBX
  go_wp2_with (go_at_call 33; fail)
  refine HCALL.out.mono ?_
  rintro e wz ⟨rfl, rfl⟩
  clear m1 ml m2 m3 m4 m5 m6 m7 m8 m9 HCALL
  go_wp2
  go_ret2
  exact ⟨rfl, HPOST.out⟩
/-- The first slot from j on that was never used; -1: none. -/
def low (l : List U) (j : Nat) : Int := match (l.drop j).findIdx? (fun s => s.use == 0) with
  | some i => ((j + i : Nat) : Int)
  | none => -1
theorem low_step {l : List U} {j : Nat} {s : U} (hs : l[j]? = some s) : low l j = if s.use = 0 then (j : Int) else low l (j + 1) := by
  obtain ⟨hj, he⟩ := List.getElem?_eq_some_iff.1 hs
  unfold low
  rw [List.drop_eq_getElem_cons hj, he, List.findIdx?_cons]
  by_cases h0 : s.use = 0
  · simp [h0]
  · have hb : (s.use == 0) = false := by simpa using h0
    rw [hb, if_neg (by decide), if_neg h0]
    cases (l.drop (j + 1)).findIdx? (fun s => s.use == 0) with
    | none => rfl
    | some i => simp only [Option.map_some]; omega
theorem low_end (l : List U) : low l l.length = -1 := by unfold low; rw [List.drop_length]; rfl
theorem low_bd (l : List U) (j : Nat) : -1 ≤ low l j ∧ low l j < l.length ∨ low l j = -1 := by
  unfold low
  split
  · rename_i i hi
    left
    have := (List.findIdx?_eq_some_iff_getElem.1 hi).1
    rw [List.length_drop] at this
    omega
  · exact .inr rfl
theorem low_zero (a : AA) : (low a.sl 0 = -1 ∧ a.sl[a.sl.findIdx (·.use == 0)]? = none) ∨ ∃ (k : Nat) (s : U), low a.sl 0 = (k : Int) ∧ a.sl.findIdx (·.use == 0) = k ∧ a.sl[k]? = some s ∧ s.use = 0 := by
  unfold low
  rw [List.drop_zero]
  cases hi : a.sl.findIdx? (fun s => s.use == 0) with
  | none =>
    left
    refine ⟨rfl, List.getElem?_eq_none ?_⟩
    rw [List.findIdx?_eq_none_iff_findIdx_eq] at hi
    omega
  | some i =>
    right
    obtain ⟨h1, h2⟩ := List.findIdx?_eq_some_iff_findIdx_eq.1 hi
    have h3 := (List.findIdx?_eq_some_iff_getElem.1 hi)
    obtain ⟨h4, h5, -⟩ := h3
    exact ⟨i, a.sl[i], by simp, h2, List.getElem?_eq_getElem h1, by simpa using h5⟩
set_option maxHeartbeats 4000000 in
theorem rput_nil {w : World} {base rb : Nat} {v1 v2 v3 v4 : Value} {a a' : AA} (h : IsR w base rb v1 v2 v3 v4 a) (ok : AOk a) (hf : a.fl = []) {v hd er : Int} (hp : a.put v = (a', hd, er)) :
    Calls Try.prog 20 #[.pointer (some ⟨rb, 0, none⟩), .int .i64 v] w fun e w' => e = .returned (.tuple #[.int .i64 hd, .int .i64 er]) ∧ RPost w w' base rb v1 v2 v3 v4 a' := by
  have HI := Lib.hid h
  have hl := ok.len
  obtain ⟨p1, q1, hv1⟩ := own_v h.uses
  obtain ⟨p2, q2, hv2⟩ := own_v h.tks
  obtain ⟨p3, q3, hv3⟩ := own_v h.vs
  obtain ⟨p4, q4, hv4⟩ := own_v h.frd
  rw [hf, List.length_nil] at hv4
  subst hv1 hv2 hv3 hv4
  obtain ⟨n, hn⟩ : ∃ n, a.sl.length = n := ⟨_, rfl⟩
  have HN := Lib.hid hn
  rw [hn] at hl HI ⊢
  have HP := Lib.hid hp
  have HFL := Lib.hid hf
  have HL0 := Lib.hid (low_zero a)
  have HLE : Hid (low a.sl n = -1) := Lib.hid (by rw [← hn]; exact low_end _)
  have x4 := HI.out.hd.get (j := 4) rfl
  have x1 := HI.out.hd.get (j := 1) rfl
  have xl := HI.out.hd.lt
  clear h hf hp hn ok
  go_enter Try.func20, Try.ntmps20
  go_wp2_with (go_at_call 32; refine (rmade_c HI.out).mono ?_; rintro e w' ⟨rfl, rfl⟩)
  go_loopw [6, 7] (fun sl i wr => ∃ j : Nat, j ≤ n ∧ i = .int .i64 ((j : Int) - 1) ∧ sl = .int .i64 (low a.sl j) ∧ wr = w) (fun _ i _ => match i with | .int _ x => (x + 1).toNat | _ => 0)
  case atStart => exact ⟨n, Nat.le_refl _, rfl, by rw [HLE.out], rfl⟩
  case round =>
    obtain ⟨j, hj, rfl, rfl, hw⟩ := hrel
    have hw2 := hw.symm
    clear hw
    subst hw2
    by_cases hlt : 0 < j
    · obtain ⟨k, rfl⟩ : ∃ k, j = k + 1 := ⟨j - 1, by omega⟩
      obtain ⟨s, hs⟩ : ∃ s, a.sl[k]? = some s := ⟨_, List.getElem?_eq_getElem (by rw [HN.out]; omega)⟩
      obtain ⟨g1, cc1, hv, hc1, u0, -, -, -⟩ := own_cell HI.out.uses (k := k) (u := .int .i64 s.use) (by rw [List.getElem?_map, hs]; rfl)
      injection hv with e1 e2 e3
      subst e1 e3
      have HST := Lib.hid (low_step hs)
      have e0 : ((k + 1 : Nat) : Int) - 1 = (k : Int) := by omega
      rw [e0]
      have i1 : (0 : Int) ≤ (k : Int) := by omega
      have i2 : (k : Int) < (n : Int) := by omega
      have i3 : wrap64 ((k : Int) - 1) = (k : Int) - 1 := IntWalk.wrap64_in _ (by omega)
      clear hs e2 e0
      by_cases h0 : s.use = 0
      · have b1 : (s.use == 0) = true := by simpa using h0
        have HLO : Hid (low a.sl k = (k : Int)) := Lib.hid (by rw [HST.out, if_pos h0])
        clear h0
        go_wp2
        go_roundw
        case rel => exact ⟨k, by omega, by first | rfl | go_num, by rw [HLO.out], trivial⟩
        case measure => first | (simp; done) | (simp; omega)
      · have b1 : (s.use == 0) = false := by simpa using h0
        have HLO : Hid (low a.sl k = low a.sl (k + 1)) := Lib.hid (by rw [HST.out, if_neg h0])
        clear h0
        go_wp2
        go_roundw
        case rel => exact ⟨k, by omega, by first | rfl | go_num, by rw [HLO.out], trivial⟩
        case measure => first | (simp; done) | (simp; omega)
    · obtain rfl : j = 0 := by omega
      rcases HL0.out with ⟨hlo, hno⟩ | ⟨k, s, hlo, hfi, hs, hu0⟩
      · have HRES : Hid (a' = a ∧ hd = 0 ∧ er = 4) := Lib.hid (by
          have := HP.out
          unfold AA.put AA.pick at this
          rw [HFL.out] at this
          simp only [] at this
          rw [hno] at this
          simp only [Option.map_none] at this
          injection this with q1 q2
          injection q2 with q2 q3
          exact ⟨q1.symm, q2.symm, q3.symm⟩)
        have HRP : Hid (RPost w w base rb (.slice p1 n q1) (.slice p2 n q2) (.slice p3 n q3) (.slice p4 0 q4) a') := Lib.hid (by
          rw [HRES.out.1]
          exact ⟨_, HI.out, Kept.refl _ _, fun b z => .inl z⟩)
        rw [hlo]
        clear hlo hno
        go_wp2
        go_ret2
        exact ⟨by rw [HRES.out.2.1, HRES.out.2.2]; rfl, HRP.out⟩
      · have HRES : Hid (a' = a.fill k s v [] ∧ hd = 4096 * (s.use + 1) + k ∧ er = 0) := Lib.hid (by
          have := HP.out
          unfold AA.put AA.pick at this
          rw [HFL.out] at this
          simp only [] at this
          rw [hfi, hs] at this
          simp only [Option.map_some] at this
          injection this with q1 q2
          injection q2 with q2 q3
          exact ⟨q1.symm, q2.symm, q3.symm⟩)
        have HS := Lib.hid hs
        have hfa : ({ a with fl := [] } : AA) = a := by have := HFL.out; cases a; simp_all
        have HX : Hid (IsR w base rb (.slice p1 n q1) (.slice p2 n q2) (.slice p3 n q3) (.slice p4 0 q4) { a with fl := [] }) := Lib.hid (by rw [hfa]; exact HI.out)
        have HKX : Hid (Kept (FR rb (.slice p1 n q1) (.slice p2 n q2) (.slice p3 n q3) (.slice p4 0 q4)) w w) := Lib.hid (Kept.refl _ _)
        have HBX : Hid (∀ b, (Value.slice p4 0 q4).ownBlock = some b → (Value.slice p4 0 q4).ownBlock = some b ∨ w.heap.size ≤ b) := Lib.hid fun b z => .inl z
        have hub : -1 < s.use ∧ s.use < 1 := by omega
        rw [hlo]
        clear hlo hfi hs hfa x4 x1 xl hu0
        obtain ⟨g1, g2, g3, e1, e2, e3, hkn, ⟨m1, ml, m2, m3⟩, ⟨m4, m5, m6⟩, ⟨m7, m8, m9⟩, hcall, hpost⟩ := filled HX.out HN.out hl HS.out (by omega) v HKX.out HBX.out
        subst e1 e2 e3
        have HCALL := Lib.hid hcall
        have HPOST := Lib.hid hpost
        have j1 : (0 : Int) ≤ (k : Int) := by omega
        have j2 : (k : Int) < (n : Int) := by omega
        have j3 : wrap64 (s.use + 1) = s.use + 1 := IntWalk.wrap64_in _ (by omega)
        have j4 : IntKind.i64.wrap (s.use + 1) = s.use + 1 := IntWalk.i64_in _ (by omega)
        clear hcall hpost HX HKX HBX
        go_wp2_with (go_at_call 33; fail)
        refine HCALL.out.mono ?_
        rintro e wz ⟨rfl, rfl⟩
        clear m1 ml m2 m3 m4 m5 m6 m7 m8 m9 HCALL
        go_wp2
        go_ret2
        exact ⟨by rw [HRES.out.2.1, HRES.out.2.2]; rfl, by rw [HRES.out.1]; exact HPOST.out⟩
theorem rput_c {w : World} {base rb : Nat} {v1 v2 v3 v4 : Value} {a a' : AA} (h : IsR w base rb v1 v2 v3 v4 a) (ok : AOk a) {v hd er : Int} (hp : a.put v = (a', hd, er)) :
    Calls Try.prog 20 #[.pointer (some ⟨rb, 0, none⟩), .int .i64 v] w fun e w' => e = .returned (.tuple #[.int .i64 hd, .int .i64 er]) ∧ RPost w w' base rb v1 v2 v3 v4 a' := by
  cases hf : a.fl with
  | nil => exact rput_nil h ok hf hp
  | cons k r =>
    obtain ⟨s, hs, -⟩ := ok.fl k (by rw [hf]; simp)
    unfold AA.put AA.pick at hp
    rw [hf] at hp
    simp only [] at hp
    rw [hs] at hp
    simp only [Option.map_some] at hp
    injection hp with q1 q2
    injection q2 with q2 q3
    subst q1 q2 q3
    exact rput_freed h ok hf hs v
end Go.Proofs.Ytokmjjjedljcpaa
