/- TrRun1: texts for the statements of this seat: contracts of functions, walks, plain laws. Conditions: none. -/
import Derived.Test.YtfhlllmicobafaaTrLaun
import Derived.Test.YtfhlllmicobafaaTrMap
set_option linter.all false
/- What Running does in the rounds of walk. -/
namespace Go.Proofs.Ytfhlllmicobafaa
open Go.RowKit Go.Shelf
open Tr (Ev ofB)

theorem Try.info3 : (Try.prog.info? 3).map (fun i => (i.zero, i.size, i.bytes)) = some (some (.int .i64 0), 1, 8) := by kernel_rfl
theorem el25 : ElemOk Try.prog 25 3 1 8 := .mk' Try.underlying25 Try.info3 rfl (by decide)
theorem run1_skip (i n : Int) (B k Bn Bo : Nat) (w : World) (hn : RowAt w Bn [.int .i64 n]) (hb : 0 ≤ n ∧ n ≤ 1000000) (h : i < n - 1) :
    Calls Try.prog 48 #[.int .i64 i, .map (some B), .pointer (some ⟨Bn, 0, none⟩), .pointer (some ⟨Bo, 0, none⟩)] w fun r w' => r = .returned (.tuple #[]) ∧ w = w' := by
  have c := hn.get (j := 0) rfl
  have cl := hn.lt
  go_enter Try.func48, Try.ntmps48
  go_wp2
  refine bodyPost_ret (results_none rfl _ _ _) rfl ?_
  exact ⟨rfl, rfl⟩
/-- The keys that a range has met, in a box. -/
structure KeyI (B Bo base k : Nat) (L : List Ev) (w wr : World) (ks : List Int) (cnt : Nat) : Prop where
  rg : RangeOf Try.prog 3 evR evD wr B base k (Tr.look L) ks cnt
  out : ∃ vo, RowAt wr Bo [vo] ∧ wr.ownsRow (base + 1) 3 1 vo ks.length (ks.map (Value.int .i64))
  kept : Kept (fun b => b = Bo) w wr
  size : base + 1 ≤ wr.heap.size
  cnt : ks.length + cnt ≤ k
def RunPost (B Bo k : Nat) (L : List Ev) (w : World) (r : Ending) (w' : World) : Prop := r = .returned (.tuple #[]) ∧ ∃ (ks : List Int) (vo : Value), RowAt w' Bo [vo] ∧ w'.ownsRow w.heap.size 3 1 vo ks.length (ks.map (Value.int .i64)) ∧ Kept (fun b => b = Bo) w w' ∧
  ks.Nodup ∧ (∀ s ∈ ks, (Tr.look L s).isSome = true) ∧ (∀ s, Wf s → (Tr.look L s).isSome = true → s ∈ ks) ∧ ks.length ≤ k ∧ Mp w' B k L
set_option maxRecDepth 100000 in
set_option maxHeartbeats 4000000 in
theorem run1_go (i n : Int) (B k Bn Bo : Nat) (L : List Ev) (w : World) (hn : RowAt w Bn [.int .i64 n]) (hb : 0 ≤ n ∧ n ≤ 1000000) (h : ¬ i < n - 1) (hk : k ≤ 1000000) (hm : Mp w B k L) (ho : RowAt w Bo [.slice none 0 0]) (hB : B ≠ Bo) :
    Calls Try.prog 48 #[.int .i64 i, .map (some B), .pointer (some ⟨Bn, 0, none⟩), .pointer (some ⟨Bo, 0, none⟩)] w (RunPost B Bo k L w) := by
  have c := hn.get (j := 0) rfl
  have cl := hn.lt
  have HM := Lib.hid hm
  have HO := Lib.hid ho
  obtain ⟨R, hR⟩ : ∃ R, w.heap.size = R := ⟨_, rfl⟩
  have HR := Lib.hid hR
  have hBR : B < R := by rw [← hR]; exact hm.lt
  have hoR : Bo < R := by rw [← hR]; exact ho.lt
  clear hn hm ho
  go_enter Try.func48, Try.ntmps48
  go_wp2_with (at_range; refine wpList_range_of rfl _ 70 rfl 35 Try.underlying3 Try.underlying70 B k _ rfl HM.out ?_; intro w0 cnt hrg hcnt K0 hs0)
  rw [hR] at hrg
  have HI0 : Hid (KeyI B Bo R k L w w0 [] cnt) := Lib.hid ⟨hrg, ⟨_, HO.out.same K0, ⟨rfl, .inl ⟨rfl, rfl⟩⟩⟩, K0.mono fun _ _ h => h.elim, by rw [hs0, hR]; exact Nat.le_refl _, by simpa using hcnt⟩
  clear hrg K0 hs0 hR hcnt
  try go_frame
  go_loopw [6] (fun _ wr => ∃ (ks : List Int) (cn : Nat), KeyI B Bo R k L w wr ks cn) (fun _ wr => wr.rangeLeft B R)
  case atStart => exact ⟨[], cnt, HI0.out⟩
  case round =>
    obtain ⟨ks, cn, hki⟩ := hrel
    have HKI := Lib.hid hki
    clear hki HI0
    go_wp2_with (at_next; refine wpList_next_of evCode rfl _ rfl Try.underlying3 B R k _ ks cn rfl HKI.out.rg ?_ ?_)
    · intro hc0 hall
      have HALL := Lib.hid hall
      clear hall hc0
      go_wp2
      go_end0
      obtain ⟨vo, q1, q2⟩ := HKI.out.out
      obtain ⟨D, left, r1, r2, r3, r4, r5⟩ := HKI.out.rg
      exact ⟨rfl, ks, vo, q1, by rw [HR.out]; exact ownsRow_base q2 (Nat.le_succ R), HKI.out.kept, r4, fun s hs => (r5 s hs).2, HALL.out, by have := HKI.out.cnt; omega, HKI.out.rg.map⟩
    · intro s x w1 cn1 hws hsn hgx hrg1 hlt K1 hs1 hen
      obtain ⟨vo, q1, q2⟩ := HKI.out.out
      have hob := fun b (hb : vo.ownBlock = some b) => ownsRow_block q2 hb
      have o1 := q1.kept K1 (by omega)
      have p1 := ownsRow_kept q2 K1 (fun b hb hv e => by omega)
      have HO1 := Lib.hid o1
      have HP1 := Lib.hid p1
      have HK1 := Lib.hid K1
      have HRG := Lib.hid hrg1
      have HCN : Hid (cn1 < cn ∧ (ks ++ [s]).length + cn1 ≤ k) := Lib.hid (by have := HKI.out.cnt; rw [List.length_append, List.length_singleton]; omega)
      have HSZ : Hid (R + 1 ≤ w1.heap.size) := Lib.hid (by rw [hs1]; exact HKI.out.size)
      have e0 := o1.get (j := 0) rfl
      have f0 := o1.fz 0
      have l0 := o1.lt
      obtain ⟨m, hm⟩ : ∃ m, ks.length = m := ⟨_, rfl⟩
      have HMK := Lib.hid hm
      have hml : m ≤ k := by rw [← hm]; have := HKI.out.cnt; omega
      rw [hm] at HP1
      have HN1 : Hid (∀ (c : World) (v : List Value), RowAt w1 Bo v → Kept (fun i => vo.ownBlock = some i) w1 c → RowAt c Bo v) := Lib.hid fun c v h K => h.kept K (fun q => by have := hob Bo q; omega)
      clear o1 p1 K1 hrg1 hlt hs1 q1 q2 hgx hws hsn hm
      go_wp2_with (at_builtin; go_loud (refine wpList_app1 el25 rfl (.tmp 17) (.tmp 19) rfl (R + 1) vo m (ks.map (Value.int .i64)) rfl HP1.out (news := [.int .i64 s]) rfl rfl (by intro u hu; simp at hu; subst hu; rfl) (by unfold maxLen; omega) (by omega) HSZ.out ?_; intro g cg w5 hown5 K5; have h5 := HN1.out w5 _ HO1.out K5; have e5 := h5.get (j := 0) rfl; have f5 := h5.fz 0; have l5 := h5.lt; have HO5 := Lib.hid h5; have HK5 := Lib.hid K5; have HW5 := Lib.hid hown5; clear h5 K5 hown5))
      have hgb := (ownsRow_block HW5.out (b := g) rfl).1
      have k6 : Kept (fun b => b = Bo) w5 (w5.setCell ⟨Bo, 0, none⟩ (.slice (some ⟨g, 0, none⟩) (m + 1) cg)) := (Kept.refl _ _).setCell _ _ (by simp)
      have HNX : Hid (KeyI B Bo R k L w (w5.setCell ⟨Bo, 0, none⟩ (.slice (some ⟨g, 0, none⟩) (m + 1) cg)) (ks ++ [s]) cn1) := Lib.hid (by
        have hl1 := HRG.out.lt
        refine ⟨(HRG.out.kept HK5.out (fun q => by have := hob B q; omega) (fun q => by have := hob R q; omega)).kept k6 hB (by omega), ⟨.slice (some ⟨g, 0, none⟩) (m + 1) cg, HO5.out.set (j := 0) (by simp) _, ?_⟩,
          ((HKI.out.kept.trans HK1.out (fun i hi e => by have := HR.out; omega)).trans HK5.out (fun i hi e => by have := hob i e; have := HR.out; omega)).trans k6 (fun i hi e => e), Nat.le_trans HSZ.out (Nat.le_trans HK5.out.size k6.size), HCN.out.2⟩
        have := ownsRow_kept HW5.out k6 (fun b hb hv e => by simp only [Value.ownBlock, Option.some.injEq] at hv; omega)
        rw [List.length_append, List.length_singleton, HMK.out, List.map_append]
        exact this)
      clear k6
      go_wp2
      go_roundw
      case rel => exact ⟨ks ++ [s], cn1, HNX.out⟩
      case measure => rw [HNX.out.rg.left, HKI.out.rg.left]; exact HCN.out.1
end Go.Proofs.Ytfhlllmicobafaa
