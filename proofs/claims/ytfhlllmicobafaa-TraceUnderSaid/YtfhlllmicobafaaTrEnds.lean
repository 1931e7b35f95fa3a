/- TrEnds: texts for the statements of this seat: contracts of functions, walks, plain laws. Conditions: none. -/
import Derived.Test.YtfhlllmicobafaaTrPred
import Derived.Test.YtfhlllmicobafaaTrSome62
set_option linter.all false
/- Ends. -/
namespace Go.Proofs.Ytfhlllmicobafaa
open Go.RowKit Go.Shelf
open Tr (Ev ofB)
attribute [local go_sem] Oper.semAt_some

def isEndOf (due : Int) (e : Ev) : Bool := (decide (e.kind = 2) || decide (e.kind = 5)) && decide (e.due = due)
/-- The errno. -/
def endsC (l : List Ev) (job due : Int) : Int := if wrongE l job 0 63 ≠ 0 then wrongE l job 0 63 else if due < 0 ∨ 253402300799 < due then 14 else 0
def endsR (l : List Ev) (job due : Int) : Int × Bool := if endsC l job due ≠ 0 then (0, false) else match picks (isEndOf due) job l l.length with
  | [] => (0, false)
  | p :: _ => ((p.1 : Int), true)
def EndsPost (l : List Ev) (job due : Int) (w : World) (r : Ending) (w' : World) : Prop :=
  r = .returned (.tuple #[.int .i64 (endsR l job due).1, .bool (endsR l job due).2, .int .i64 (endsC l job due)]) ∧ Kept (fun _ => False) w w'
theorem results37 {tmps : Array Value} {w : World} {a b c : Nat} {x z : Int} {y : Bool} (ha : tmps[6]? = some (.pointer (some ⟨a, 0, none⟩))) (hb : tmps[7]? = some (.pointer (some ⟨b, 0, none⟩))) (hc : tmps[8]? = some (.pointer (some ⟨c, 0, none⟩)))
    (h1 : w.cell? ⟨a, 0, none⟩ = some (.int .i64 x)) (h2 : w.cell? ⟨b, 0, none⟩ = some (.bool y)) (h3 : w.cell? ⟨c, 0, none⟩ = some (.int .i64 z)) :
    (results Try.f37 tmps).run Try.prog w = .ok (.tuple #[.int .i64 x, .bool y, .int .i64 z]) w := by
  simp [results, Try.results37, ha, hb, hc, go_sem, h1, h2, h3]
theorem kept_grow0 {A B : World} (K : Kept (fun _ => False) A B) : A.grownBy B none := ⟨K.os, K.tape, K.output, K.size, fun k hk _ => K.block k hk (fun h => h)⟩
/-- What a round of Ends leaves alone. -/
def EKp (Bl Bj Bi Bd : Nat) (v : Value) (l : List Ev) (W W' : World) : Prop := Kept (fun b => b ≠ Bl ∧ b ≠ Bj ∧ b ≠ Bi ∧ b ≠ Bd ∧ (v.ownBlock = some b → l = [])) W W'
theorem ends_seq (n : Nat) (hn : 2 ≤ n) (Bl Bj Bi : Nat) (v : Value) (job : Int) (l : List Ev) (hl : l.length ≤ 1000000) (Bd : Nat) (due : Int)
    (HIS : Hid (∀ b e W, isEndOf due e = b → RowAt W Bd [.int .i64 due] → Calls Try.prog 62 #[evV e, .pointer (some ⟨Bd, 0, none⟩)] W fun r W' => r = .returned (.bool b) ∧ Kept (fun _ => False) W W')) (w : World)
    (hB : Boxes w Bl Bj Bi v job (.func (.func 62) #[] #[.pointer (some ⟨Bd, 0, none⟩)]) l) (hD : RowAt w Bd [.int .i64 due]) :
    SeqStopsK Fence.wide n Try.prog 68 #[.pointer (some ⟨Bl, 0, none⟩), .pointer (some ⟨Bj, 0, none⟩), .pointer (some ⟨Bi, 0, none⟩)] (fun x : Nat × Ev => #[.int .i64 (x.1 : Nat), evV x.2]) (EKp Bl Bj Bi Bd v l)
      (fun ys => ys = picks (isEndOf due) job l l.length) (fun p => p <+: picks (isEndOf due) job l l.length) (picks (isEndOf due) job l l.length).length w := fun lp J Jx W hW hJ hJx hY h0 => by
  have hK : Kept (fun _ => False) w W := ⟨hW.os, hW.tape, hW.output, hW.size, fun k hk _ => hW.block k hk⟩
  exact some_in62 n hn lp Bl Bj Bi v job l hl Bd (isEndOf due) (fun W => RowAt W Bd [.int .i64 due]) (fun A B' h K => h.same K) (EKp Bl Bj Bi Bd v l) (fun A B' K => K.mono fun b hb q => ⟨q.1, q.2.1, q.2.2.1, q.2.2.2.2⟩) (fun A B' h K => h.kept K (fun q => q.2.2.2.1 rfl)) HIS J Jx
    (fun s A B' h K => hJ s A B' none h (kept_grow0 K) (fun r e => by cases e)) (fun pre x W1 h1 h2 => hY pre x W1 h1 (by have := h2.length_le; rw [List.length_append, List.length_singleton] at this; omega)) W (hB.same hK) h0 (hD.same hK)
set_option maxRecDepth 100000 in
set_option maxHeartbeats 4000000 in
theorem ends_in (n : Nat) (hn : 4 ≤ n) {w : World} {v : Value} {l : List Ev} (h : Evs w v l) (hw : EvW l) (hl : l.length ≤ 100000) (job due : Int) :
    CallsIn Fence.wide n Try.prog 37 #[v, .int .i64 job, .int .i64 due] w (EndsPost l job due w) := by
  have h1 : 1 ≤ n := by omega
  have r5 := RowAt.new w 2 #[.int .i64 due]
  have r6 := RowAt.new (w.alloc (.cells #[.int .i64 due] 2)) 3 #[.int .i64 0]
  have r7 := RowAt.new ((w.alloc (.cells #[.int .i64 due] 2)).alloc (.cells #[.int .i64 0] 3)) 4 #[.bool false]
  have r8 := RowAt.new (((w.alloc (.cells #[.int .i64 due] 2)).alloc (.cells #[.int .i64 0] 3)).alloc (.cells #[.bool false] 4)) 26 #[.int .i64 0]
  simp only [World.size_alloc] at r6 r7 r8
  have k0 : Kept (fun _ => False) w ((((w.alloc (.cells #[.int .i64 due] 2)).alloc (.cells #[.int .i64 0] 3)).alloc (.cells #[.bool false] 4)).alloc (.cells #[.int .i64 0] 26)) := ((((Kept.refl _ _).alloc _).alloc _).alloc _).alloc _
  have R5 : Hid (RowAt ((((w.alloc (.cells #[.int .i64 due] 2)).alloc (.cells #[.int .i64 0] 3)).alloc (.cells #[.bool false] 4)).alloc (.cells #[.int .i64 0] 26)) w.heap.size [.int .i64 due]) := Lib.hid (((r5.same ((Kept.refl _ _).alloc _)).same ((Kept.refl _ _).alloc _)).same ((Kept.refl _ _).alloc _))
  have R6 : Hid (RowAt ((((w.alloc (.cells #[.int .i64 due] 2)).alloc (.cells #[.int .i64 0] 3)).alloc (.cells #[.bool false] 4)).alloc (.cells #[.int .i64 0] 26)) (w.heap.size + 1) [.int .i64 0]) := Lib.hid ((r6.same ((Kept.refl _ _).alloc _)).same ((Kept.refl _ _).alloc _))
  have R7 : Hid (RowAt ((((w.alloc (.cells #[.int .i64 due] 2)).alloc (.cells #[.int .i64 0] 3)).alloc (.cells #[.bool false] 4)).alloc (.cells #[.int .i64 0] 26)) (w.heap.size + 1 + 1) [.bool false]) := Lib.hid (r7.same ((Kept.refl _ _).alloc _))
  have R8 := Lib.hid r8
  have HK0 := Lib.hid k0
  have HC := Lib.hid (checked_c (h.same k0) hw (by omega) job 0 63)
  have HQ := Lib.hid (h.same k0)
  obtain ⟨aa, cap, rfl⟩ := h.len
  have HVB0 : Hid (∀ b, (Value.slice aa l.length cap).ownBlock = some b → 0 < l.length → b < w.heap.size) := Lib.hid fun b hb hp => h.block hb hp
  clear h hw r5 r6 r7 r8 k0
  refine callsIn_of_wp_marks Try.func37 rfl trivial ?_ rfl
  simp only [Try.ntmps37, List.size_toArray, List.length_cons, List.length_nil, Nat.reduceAdd, Nat.reduceSub, Array.replicate_succ, Array.replicate_zero, List.push_toArray, List.append_toArray, List.nil_append, List.cons_append]
  obtain ⟨c, hc⟩ : ∃ c, wrongE l job 0 63 = c := ⟨_, rfl⟩
  have HWE := Lib.hid hc
  rw [hc] at HC
  gi_wp2_with fail
  obtain ⟨A, hA⟩ : ∃ A, w.heap.size = A := ⟨_, rfl⟩
  have HAS := Lib.hid hA
  rw [hA] at R5 R6 R7 R8 HVB0 ⊢
  generalize (((w.alloc (.cells #[.int .i64 due] 2)).alloc (.cells #[.int .i64 0] 3)).alloc (.cells #[.bool false] 4)).alloc (.cells #[.int .i64 0] 26) = w0 at *
  clear hA hc
  refine ⟨trivial, ?_⟩
  refine (callsIn_wide.2 HC.out).mono ?_
  rintro e w1 ⟨rfl, K1⟩
  have S5 := Lib.hid (R5.out.same K1)
  have S6 := Lib.hid (R6.out.same K1)
  have S7 := Lib.hid (R7.out.same K1)
  have S8 := Lib.hid (R8.out.same K1)
  have HK1 := Lib.hid (HK0.out.trans K1 (fun _ _ h => h))
  have HQ1 := Lib.hid (HQ.out.same K1)
  clear K1 R5 R6 R7 R8
  have d0 := S5.out.get (j := 0) rfl
  have dl := S5.out.lt
  have e6 := S6.out.get (j := 0) rfl
  have e7 := S7.out.get (j := 0) rfl
  have e8 := S8.out.get (j := 0) rfl
  have f6 := S6.out.fz 0
  have f7 := S7.out.fz 0
  have f8 := S8.out.fz 0
  have l6 := S6.out.lt
  have l7 := S7.out.lt
  have l8 := S8.out.lt
  -- what is stored at the end
  have hst : ∀ (W : World) (x z : Int) (y : Bool), Kept (fun _ => False) w1 W → Kept (fun _ => False) w (((W.setCell ⟨A + 1, 0, none⟩ (.int .i64 x)).setCell ⟨A + 1 + 1, 0, none⟩ (.bool y)).setCell ⟨A + 1 + 1 + 1, 0, none⟩ (.int .i64 z)) ∧
      (((W.setCell ⟨A + 1, 0, none⟩ (.int .i64 x)).setCell ⟨A + 1 + 1, 0, none⟩ (.bool y)).setCell ⟨A + 1 + 1 + 1, 0, none⟩ (.int .i64 z)).cell? ⟨A + 1, 0, none⟩ = some (.int .i64 x) ∧ (((W.setCell ⟨A + 1, 0, none⟩ (.int .i64 x)).setCell ⟨A + 1 + 1, 0, none⟩ (.bool y)).setCell ⟨A + 1 + 1 + 1, 0, none⟩ (.int .i64 z)).cell? ⟨A + 1 + 1, 0, none⟩ = some (.bool y) ∧
      (((W.setCell ⟨A + 1, 0, none⟩ (.int .i64 x)).setCell ⟨A + 1 + 1, 0, none⟩ (.bool y)).setCell ⟨A + 1 + 1 + 1, 0, none⟩ (.int .i64 z)).cell? ⟨A + 1 + 1 + 1, 0, none⟩ = some (.int .i64 z) := fun W x z y K => by
    have q6 := S6.out.same K
    have q7 := S7.out.same K
    have q8 := S8.out.same K
    have k1 : Kept (fun b => b = A + 1) W (W.setCell ⟨A + 1, 0, none⟩ (.int .i64 x)) := (Kept.refl _ _).setCell _ _ (by simp)
    have k2 : Kept (fun b => b = A + 1 + 1) (W.setCell ⟨A + 1, 0, none⟩ (.int .i64 x)) ((W.setCell ⟨A + 1, 0, none⟩ (.int .i64 x)).setCell ⟨A + 1 + 1, 0, none⟩ (.bool y)) := (Kept.refl _ _).setCell _ _ (by simp)
    have k3 : Kept (fun b => b = A + 1 + 1 + 1) ((W.setCell ⟨A + 1, 0, none⟩ (.int .i64 x)).setCell ⟨A + 1 + 1, 0, none⟩ (.bool y)) (((W.setCell ⟨A + 1, 0, none⟩ (.int .i64 x)).setCell ⟨A + 1 + 1, 0, none⟩ (.bool y)).setCell ⟨A + 1 + 1 + 1, 0, none⟩ (.int .i64 z)) := (Kept.refl _ _).setCell _ _ (by simp)
    have hs := HAS.out
    refine ⟨(((HK1.out.trans K (fun _ _ h => h)).trans k1 (fun i hi q => by omega)).trans k2 (fun i hi q => by omega)).trans k3 (fun i hi q => by omega), ?_, ?_, ?_⟩
    · exact ((((q6.set (j := 0) (by simp) (.int .i64 x)).kept k2 (by omega)).kept k3 (by omega))).get (j := 0) rfl
    · exact ((((q7.kept k1 (by omega)).set (j := 0) (by simp) (.bool y)).kept k3 (by omega))).get (j := 0) rfl
    · exact ((((q8.kept k1 (by omega)).kept k2 (by omega)).set (j := 0) (by simp) (.int .i64 z))).get (j := 0) rfl
  have HST := Lib.hid hst
  clear hst
  by_cases hc0 : ¬ c = 0
  · have hb1 : (c != 0) = true := by simpa using hc0
    have hb2 : (c == 0) = false := by simpa using hc0
    have HE : Hid (endsC l job due = c) := Lib.hid (by unfold endsC; rw [if_pos (by rw [HWE.out]; exact hc0), HWE.out])
    have HR : Hid (endsR l job due = (0, false)) := Lib.hid (by unfold endsR; rw [if_pos (by rw [HE.out]; exact hc0)])
    gi_wp2
    have hf := HST.out w1 0 c false (Kept.refl _ _)
    exact ⟨_, results37 rfl rfl rfl hf.2.1 hf.2.2.1 hf.2.2.2, by rw [HR.out, HE.out], hf.1⟩
  · obtain rfl := Decidable.not_not.1 hc0
    clear hc0
    by_cases hdu : due < 0
    · have HE : Hid (endsC l job due = 14) := Lib.hid (by unfold endsC; rw [HWE.out, if_neg (by simp), if_pos (.inl hdu)])
      have HR : Hid (endsR l job due = (0, false)) := Lib.hid (by unfold endsR; rw [if_pos (by rw [HE.out]; decide)])
      gi_wp2
      have hf := HST.out w1 0 14 false (Kept.refl _ _)
      exact ⟨_, results37 rfl rfl rfl hf.2.1 hf.2.2.1 hf.2.2.2, by rw [HR.out, HE.out], hf.1⟩
    by_cases hdu2 : 253402300799 < due
    · have HE : Hid (endsC l job due = 14) := Lib.hid (by unfold endsC; rw [HWE.out, if_neg (by simp), if_pos (.inr hdu2)])
      have HR : Hid (endsR l job due = (0, false)) := Lib.hid (by unfold endsR; rw [if_pos (by rw [HE.out]; decide)])
      gi_wp2
      have hf := HST.out w1 0 14 false (Kept.refl _ _)
      exact ⟨_, results37 rfl rfl rfl hf.2.1 hf.2.2.1 hf.2.2.2, by rw [HR.out, HE.out], hf.1⟩
    have HE : Hid (endsC l job due = 0) := Lib.hid (by unfold endsC; rw [HWE.out, if_neg (by simp), if_neg (by omega)])
    have HRR : Hid (endsR l job due = match picks (isEndOf due) job l l.length with
      | [] => (0, false)
      | p :: _ => ((p.1 : Int), true)) := Lib.hid (by unfold endsR; rw [if_neg (by rw [HE.out]; decide)])
    gi_wp2_with fail
    refine ⟨trivial, ?_⟩
    refine (callsIn_wide.2 (some_c aa l.length cap l job 62 #[.pointer (some ⟨A, 0, none⟩)] _ HQ1.out)).mono ?_
    rintro e w2 ⟨B, B2, B3, rfl, ⟨hB1, hB2, hB3⟩, hbx, K2⟩
    have HBX := Lib.hid hbx
    have HK2 := Lib.hid K2
    have T5 := Lib.hid (S5.out.same K2)
    have T6 := Lib.hid (S6.out.same K2)
    have T7 := Lib.hid (S7.out.same K2)
    have T8 := Lib.hid (S8.out.same K2)
    have hBl := hbx.bl.lt
    have hBj := hbx.bj.lt
    have hBi := hbx.bi.lt
    have hsA := HAS.out
    have hAl := T8.out.lt
    have hA1 := HK0.out.size
    clear hbx K2 d0 dl e6 e7 e8 f6 f7 f8 l6 l7 l8
    have HIS : Hid (∀ b e W, isEndOf due e = b → RowAt W A [.int .i64 due] → Calls Try.prog 62 #[evV e, .pointer (some ⟨A, 0, none⟩)] W fun r W' => r = .returned (.bool b) ∧ Kept (fun _ => False) W W') := Lib.hid fun b e W hb hR => end_is b e due A W hR hb
    gi_wp2_with fail
    refine wpIn_rangeFunc_ownG rfl h1 (gf := 68) (lb := #[.pointer (some ⟨B, 0, none⟩), .pointer (some ⟨B2, 0, none⟩), .pointer (some ⟨B3, 0, none⟩)]) rfl trivial (enters_of Try.func68 (by kernel_rfl) rfl)
      (ends_seq (n - 1) (by omega) B B2 B3 _ job l (by omega) A due HIS w2 HBX.out T5.out) (fun h k => h.trans k (fun _ _ q => q))
      (fun W lo o o' hlo _ _ _ => kept_putObj W lo o' (fun hlo2 => ⟨by omega, by omega, by omega, by omega, fun q => by
        rcases Nat.eq_zero_or_pos l.length with h0 | h0
        · exact List.eq_nil_of_length_eq_zero h0
        · have := HVB0.out _ q h0; omega⟩)) (Below.refl _ _) (fun _ => rfl)
      (fun (pre : List (Nat × Ev)) W => pre = [] ∧ Kept (fun _ => False) w2 W)
      (fun (c : Code) (pre : List (Nat × Ev)) W => c = .ret ∧ ∃ x, pre = [x] ∧ Kept (fun b => b = A + 1 ∨ b = A + 1 + 1 ∨ b = A + 1 + 1 + 1) w2 W ∧ RowAt W (A + 1) [.int .i64 (x.1 : Nat)] ∧ RowAt W (A + 1 + 1) [.bool true] ∧ RowAt W (A + 1 + 1 + 1) [.int .i64 0])
      (ownFrom_of fun pre A0 A' h K => ⟨h.1, h.2.trans K (fun i hi q => by have := q.1; omega)⟩)
      (fun c => ownFrom_of fun pre A0 A' h K => by
        obtain ⟨h1, x, h2, h3, h4, h5, h6⟩ := h
        exact ⟨h1, x, h2, h3.trans K (fun i hi q => by have := q.1; omega), h4.kept K (fun q => h4.cellsB q), h5.kept K (fun q => h5.cellsB q), h6.kept K (fun q => h6.cellsB q)⟩) ⟨rfl, Kept.refl _ _⟩
      (fun x => { tmps := #[.slice aa l.length cap, .int .i64 job, .int .i64 due, undef, undef, .pointer (some ⟨A, 0, none⟩), .pointer (some ⟨A + 1, 0, none⟩), .pointer (some ⟨A + 1 + 1, 0, none⟩), .pointer (some ⟨A + 1 + 1 + 1, 0, none⟩), .int .i64 0, .int .i64 (x.1 : Nat), .slice aa l.length cap, .int .i64 job, .int .i64 0, .int .i64 0, .bool false, undef, .int .i64 due, .bool (decide (due < 0)), .bool (decide (due < 0)), .int .i64 due, .bool (decide (253402300799 < due)), .bool (decide (due < 0) || decide (253402300799 < due)), .slice aa l.length cap, .int .i64 job, .func (.func 62) #[] #[.pointer (some ⟨A, 0, none⟩)], .func (.func 68) #[] #[.pointer (some ⟨B, 0, none⟩), .pointer (some ⟨B2, 0, none⟩), .pointer (some ⟨B3, 0, none⟩)], .int .i64 (x.1 : Nat), evV x.2, undef], defers := [] }) ?assign ?body ?done ?stop
    case assign =>
      intro lo x W K hK
      gi_wp2
      exact hK
    case body =>
      rintro lo pre ⟨i, x⟩ W ⟨rfl, hK⟩ hlen
      have q6 := T6.out.same hK
      have q7 := T7.out.same hK
      have q8 := T8.out.same hK
      have e6 := q6.get (j := 0) rfl
      have e7 := q7.get (j := 0) rfl
      have e8 := q8.get (j := 0) rfl
      have f6 := q6.fz 0
      have f7 := q7.fz 0
      have f8 := q8.fz 0
      have l6 := q6.lt
      have l7 := q7.lt
      have l8 := q8.lt
      have k1 : Kept (fun b => b = A + 1) W (W.setCell ⟨A + 1, 0, none⟩ (.int .i64 (i : Nat))) := (Kept.refl _ _).setCell _ _ (by simp)
      have k2 : Kept (fun b => b = A + 1 + 1) (W.setCell ⟨A + 1, 0, none⟩ (.int .i64 (i : Nat))) ((W.setCell ⟨A + 1, 0, none⟩ (.int .i64 (i : Nat))).setCell ⟨A + 1 + 1, 0, none⟩ (.bool true)) := (Kept.refl _ _).setCell _ _ (by simp)
      have k3 : Kept (fun b => b = A + 1 + 1 + 1) ((W.setCell ⟨A + 1, 0, none⟩ (.int .i64 (i : Nat))).setCell ⟨A + 1 + 1, 0, none⟩ (.bool true)) (((W.setCell ⟨A + 1, 0, none⟩ (.int .i64 (i : Nat))).setCell ⟨A + 1 + 1, 0, none⟩ (.bool true)).setCell ⟨A + 1 + 1 + 1, 0, none⟩ (.int .i64 0)) := (Kept.refl _ _).setCell _ _ (by simp)
      have s6 := ((q6.set (j := 0) (by simp) (.int .i64 (i : Nat))).kept k2 (by omega)).kept k3 (by omega)
      have s7 := ((q7.kept k1 (by omega)).set (j := 0) (by simp) (.bool true)).kept k3 (by omega)
      have s8 := ((q8.kept k1 (by omega)).kept k2 (by omega)).set (j := 0) (by simp) (.int .i64 0)
      have kk : Kept (fun b => b = A + 1 ∨ b = A + 1 + 1 ∨ b = A + 1 + 1 + 1) W (((W.setCell ⟨A + 1, 0, none⟩ (.int .i64 (i : Nat))).setCell ⟨A + 1 + 1, 0, none⟩ (.bool true)).setCell ⟨A + 1 + 1 + 1, 0, none⟩ (.int .i64 0)) := (((k1.mono fun _ _ h => .inl h).trans k2 (fun _ _ h => .inr (.inl h))).trans k3 (fun _ _ h => .inr (.inr h)))
      have hfin : KeepsFrom w2.heap.size W (((W.setCell ⟨A + 1, 0, none⟩ (.int .i64 (i : Nat))).setCell ⟨A + 1 + 1, 0, none⟩ (.bool true)).setCell ⟨A + 1 + 1 + 1, 0, none⟩ (.int .i64 0)) := keepsFrom_of_kept kk fun b q => by
        rcases q with rfl | rfl | rfl
        · exact q6.cellsB
        · exact q7.cellsB
        · exact q8.cellsB
      have FIN := Lib.hid (And.intro hfin (And.intro (hK.mono (T := fun b => b = A + 1 ∨ b = A + 1 + 1 ∨ b = A + 1 + 1 + 1) (fun _ _ h => h.elim) |>.trans kk (fun _ _ h => h)) (And.intro s6 (And.intro s7 s8))))
      clear hfin kk s6 s7 s8 k1 k2 k3 q6 q7 q8 hK hlen
      gi_wp2
      exact ⟨FIN.out.1, rfl, (i, x), rfl, FIN.out.2.1, FIN.out.2.2.1, FIN.out.2.2.2.1, FIN.out.2.2.2.2⟩
    case done =>
      rintro D ys W hD hys ⟨rfl, hK⟩ hKD
      have q6 := T6.out.same hK
      have q7 := T7.out.same hK
      have q8 := T8.out.same hK
      have e6 := q6.get (j := 0) rfl
      have e7 := q7.get (j := 0) rfl
      have e8 := q8.get (j := 0) rfl
      have f6 := q6.fz 0
      have f7 := q7.fz 0
      have f8 := q8.fz 0
      have l6 := q6.lt
      have l7 := q7.lt
      have l8 := q8.lt
      have HR : Hid (endsR l job due = (0, false)) := Lib.hid (by rw [HRR.out, ← hys])
      have hf := Lib.hid (HST.out W 0 0 false (HK2.out.trans hK (fun _ _ h => h)))
      have hDl := (Array.getElem?_eq_some_iff.1 hKD).1
      have HKD := Lib.hid hKD
      clear q6 q7 q8 hK hys hKD
      gi_wp2
      have hK5 : (((W.setCell ⟨A + 1, 0, none⟩ (.int .i64 0)).setCell ⟨A + 1 + 1, 0, none⟩ (.bool false)).setCell ⟨A + 1 + 1 + 1, 0, none⟩ (.int .i64 0)).heap[D]? = some (.deferred (some [])) := by
        rw [Below.heap_setCell _ _ _ _ (by show D ≠ A + 1 + 1 + 1; omega), Below.heap_setCell _ _ _ _ (by show D ≠ A + 1 + 1; omega), Below.heap_setCell _ _ _ _ (by show D ≠ A + 1; omega)]
        exact HKD.out
      refine ⟨by simp, .inl ⟨_, _, rfl, run_takeDeferred hK5, ?_⟩⟩
      have hf := hf.out
      generalize ((W.setCell ⟨A + 1, 0, none⟩ (.int .i64 0)).setCell ⟨A + 1 + 1, 0, none⟩ (.bool false)).setCell ⟨A + 1 + 1 + 1, 0, none⟩ (.int .i64 0) = W5 at hf hK5 ⊢
      have kD : Kept (fun b => b = D) W5 (W5.putObj D (.deferred none)) := kept_putObj (S := fun b => b = D) W5 D _ (fun _ => rfl)
      have hl5 : w2.heap.size ≤ W5.heap.size := Nat.le_trans hD (Nat.le_of_lt (Array.getElem?_eq_some_iff.1 hK5).1)
      have g6 := (kD.cell (a := ⟨A + 1, 0, none⟩) (show A + 1 < W5.heap.size by omega) (by show ¬ A + 1 = D; omega)).trans hf.2.1
      have g7 := (kD.cell (a := ⟨A + 1 + 1, 0, none⟩) (show A + 1 + 1 < W5.heap.size by omega) (by show ¬ A + 1 + 1 = D; omega)).trans hf.2.2.1
      have g8 := (kD.cell (a := ⟨A + 1 + 1 + 1, 0, none⟩) (show A + 1 + 1 + 1 < W5.heap.size by omega) (by show ¬ A + 1 + 1 + 1 = D; omega)).trans hf.2.2.2
      exact ⟨_, results37 rfl rfl rfl g6 g7 g8, by rw [HR.out, HE.out], hf.1.trans kD (fun i hi q => by have := HK2.out.size; have := HK1.out.size; omega)⟩
    case stop =>
      rintro D c pre W hD hpre ⟨rfl, x, rfl, hK, q6, q7, q8⟩ hKD
      have e6 := q6.get (j := 0) rfl
      have e7 := q7.get (j := 0) rfl
      have e8 := q8.get (j := 0) rfl
      have l8 := q8.lt
      have HR : Hid (endsR l job due = ((x.1 : Int), true)) := Lib.hid (by
        obtain ⟨t, ht⟩ := hpre
        rw [HRR.out, ← ht]
        rfl)
      gi_wp2
      refine ⟨by simp, .inl ⟨_, _, rfl, run_takeDeferred hKD, ?_⟩⟩
      have kD : Kept (fun b => b = D) W (W.putObj D (.deferred none)) := kept_putObj (S := fun b => b = D) W D _ (fun _ => rfl)
      have g6 := (kD.cell (a := ⟨A + 1, 0, none⟩) (show A + 1 < W.heap.size by omega) (by show ¬ A + 1 = D; omega)).trans e6
      have g7 := (kD.cell (a := ⟨A + 1 + 1, 0, none⟩) (show A + 1 + 1 < W.heap.size by omega) (by show ¬ A + 1 + 1 = D; omega)).trans e7
      have g8 := (kD.cell (a := ⟨A + 1 + 1 + 1, 0, none⟩) (show A + 1 + 1 + 1 < W.heap.size by omega) (by show ¬ A + 1 + 1 + 1 = D; omega)).trans e8
      exact ⟨_, results37 rfl rfl rfl g6 g7 g8, by rw [HR.out, HE.out], (((HK1.out.trans HK2.out (fun _ _ h => h)).trans hK (fun i hi q => by omega)).trans kD (fun i hi q => by have := HK2.out.size; have := HK1.out.size; omega))⟩
end Go.Proofs.Ytfhlllmicobafaa
