/- ArLive2: texts for the statements of this seat: contracts of functions, walks, plain laws. Conditions: none. -/
import Derived.Test.YtokmjjjedljcpaaArLive
set_option linter.all false
namespace Go.Proofs.Ytokmjjjedljcpaa
open Go.RowKit Go.Shelf

attribute [local go_sem] Oper.semAt_some

theorem Try.info27 : (Try.prog.info? 27).map (fun i => (i.zero, i.size, i.bytes)) = some (some (.int .i64 0), 1, 8) := by kernel_rfl
theorem el26 : ElemOk Try.prog 26 27 1 8 := .mk' Try.underlying26 Try.info27 rfl (by decide)

set_option maxHeartbeats 1000000 in
theorem live_in (F : Fence) (n : Nat) (h5 : F.fn 30) (hro : F.round = none) (p0 : Option Addr) (w : World) :
    CallsIn F n Try.prog 30 #[.pointer p0] w fun e w' => e = .returned (.func (.func 42) #[] #[.pointer (some ⟨w.heap.size, 0, none⟩)]) ∧ w' = w.alloc (.cells #[.pointer p0] 22) := by
  refine callsIn_of_wp Try.func30 rfl h5 ?_ hro
  simp only [Try.ntmps30, List.size_toArray, List.length_cons, List.length_nil, Nat.reduceAdd, Nat.reduceSub, Array.replicate_succ, Array.replicate_zero, List.push_toArray, List.append_toArray, List.nil_append, List.cons_append]
  gi_wp2
  go_ret
  exact ⟨rfl, rfl⟩

theorem live_stops (F : Fence) (n : Nat) (h6 : F.fn 42) (hro : F.round = none) (hn : 1 ≤ n) (Bn ab sb cap : Nat) (A : Ar) (ok : A.Ok) (w : World) (hBn : Bn < w.heap.size)
    (hc : w.cell? ⟨Bn, 0, none⟩ = some (.pointer (some ⟨ab, 0, none⟩))) (hI : IsAr w ab sb cap A) :
    SeqStopsK F n Try.prog 42 #[.pointer (some ⟨Bn, 0, none⟩)] (fun x : { k : Nat // k < A.sl.length } => #[Value.int .i64 (x.1 : Nat)]) (LiveKp ab sb Bn) (fun ys => ys.map Subtype.val = A.upto A.sl.length) (fun pre => pre.map Subtype.val <+: A.upto A.sl.length) A.sl.length w := fun l J Jx W hW _ _ hY h0 => by
  have hK : Kept (fun _ => False) w W := ⟨hW.os, hW.tape, hW.output, hW.size, fun k hk _ => hW.block k hk⟩
  exact live1_in F n h6 hro hn l Bn ab sb cap A ok J Jx hY W ((hK.cell (a := ⟨Bn, 0, none⟩) hBn (fun h => h)).trans hc) (hI.kept hK (fun h => h) (fun h => h)) h0

/-- The handle of the last use of the slot k. -/
def Ar.hnd (A : Ar) (k : Nat) : Int := match A.sl[k]? with | some s => 4096 * s.use + k | none => 0
theorem Ar.hnd_eq {A : Ar} {k : Nat} {s : Sl} (hs : A.sl[k]? = some s) : A.hnd k = 4096 * s.use + k := by unfold Ar.hnd; rw [hs]

def LivePost (W0 : World) (A : Ar) (e : Ending) (W' : World) : Prop := ∃ v, e = .returned v ∧ W'.ownsRow W0.heap.size 27 1 v (A.upto A.sl.length).length ((A.upto A.sl.length).map fun k => .int .i64 (A.hnd k)) ∧ Kept (fun _ => False) W0 W'

set_option maxRecDepth 100000 in
set_option maxHeartbeats 2000000 in
theorem Live_in (n : Nat) (hn : 3 ≤ n) (ab sb cap : Nat) (A : Ar) (ok : A.Ok) (w : World) (hI : IsAr w ab sb cap A) :
    CallsIn Fence.wide n Try.prog 17 #[.pointer (some ⟨ab, 0, none⟩)] w (LivePost w A) := by
  have h1 : 1 ≤ n := by omega
  refine callsIn_of_wp_marks Try.func17 rfl trivial ?_ rfl
  simp only [Try.ntmps17, List.size_toArray, List.length_cons, List.length_nil, Nat.reduceAdd, Nat.reduceSub, Array.replicate_succ, Array.replicate_zero, List.push_toArray, List.append_toArray, List.nil_append, List.cons_append]
  gi_wp2_with (refine ⟨trivial, ?_⟩; gi_at_call 30; refine (live_in Fence.wide (n - 1) trivial rfl _ _).mono ?_; rintro e w' ⟨rfl, rfl⟩)
  have hla := hI.lta
  have hls := hI.lts
  have bA := Boxed.new w 22 (.pointer (some ⟨ab, 0, none⟩))
  have bO := Boxed.new (w.alloc (.cells #[.pointer (some ⟨ab, 0, none⟩)] 22)) 26 (.slice none 0 0)
  have bN := Boxed.new ((w.alloc (.cells #[.pointer (some ⟨ab, 0, none⟩)] 22)).alloc (.cells #[.slice none 0 0] 26)) 22 (.pointer (some ⟨ab, 0, none⟩))
  rw [World.size_alloc] at bO bN
  rw [World.size_alloc] at bN
  have K0 : Kept (fun _ => False) w (((w.alloc (.cells #[.pointer (some ⟨ab, 0, none⟩)] 22)).alloc (.cells #[.slice none 0 0] 26)).alloc (.cells #[.pointer (some ⟨ab, 0, none⟩)] 22)) := (((Kept.refl _ w).alloc _).alloc _).alloc _
  have hI0 := hI.kept K0 (fun h => h) (fun h => h)
  refine wpIn_rangeFunc_ownG rfl h1 (gf := 42) (lb := #[.pointer (some ⟨w.heap.size + 1 + 1, 0, none⟩)]) rfl trivial (enters_of Try.func42 (by kernel_rfl) rfl)
    (live_stops Fence.wide (n - 1) trivial rfl (by omega) (w.heap.size + 1 + 1) ab sb cap A ok _ (by simp) bN.cell hI0)
    (fun h k => h.trans k (fun _ _ q => q))
    (fun W l o o' hl ho _ _ => kept_putObj W l o' (fun _ => ⟨by simp at hl; omega, by simp at hl; omega, by simp at hl; omega⟩))
    (Below.refl _ _) (fun _ => rfl)
    (fun pre W => (∃ v, Boxed W (w.heap.size + 1) 26 v ∧ W.ownsRow (w.heap.size + 3) 27 1 v pre.length (pre.map fun k => .int .i64 (A.hnd k.1))) ∧ Boxed W w.heap.size 22 (.pointer (some ⟨ab, 0, none⟩)) ∧ IsAr W ab sb cap A ∧ Kept (fun _ => False) w W ∧ w.heap.size + 3 ≤ W.heap.size)
    (fun _ _ _ => False)
    (ownFrom_of ?own) (fun _ _ _ _ _ hs _ _ => hs)
    ⟨⟨_, bO.alloc _, World.ownsRow_nil _ _ _ _⟩, (bA.alloc _).alloc _, hI0, K0, by simp⟩
    (fun x => { tmps := #[.pointer (some ⟨ab, 0, none⟩), .pointer (some ⟨w.heap.size, 0, none⟩), .slice none 0 0, .pointer (some ⟨w.heap.size + 1, 0, none⟩), .int .i64 (x.1 : Nat), .pointer (some ⟨ab, 0, none⟩), .bool false, .pointer (some ⟨ab, 0, none⟩), .func (.func 42) #[] #[.pointer (some ⟨w.heap.size + 1 + 1, 0, none⟩)], .int .i64 (x.1 : Nat), undef, undef, undef, undef, undef, undef, undef], defers := [] }) ?assign ?body ?done ?stop
  case own =>
    rintro s W W' ⟨⟨v, hv, hr⟩, hb, hi, hk, hz⟩ K
    refine ⟨⟨v, boxed_keptS hv K (boxed_cells hv), ownsRow_kept hr K (fun b _ hb => ownsRow_cells hr hb)⟩, boxed_keptS hb K (boxed_cells hb), hi.kept K (fun h => ?_) (fun h => ?_), hk.trans K (fun i hi' h => ?_), Nat.le_trans hz K.size⟩
    · have := h.1; simp at this; omega
    · have := h.1; simp at this; omega
    · have := h.1; simp at this; omega
  case assign =>
    intro l x W K hK
    gi_wp2
    exact hK
  case body =>
    rintro l pre x W ⟨⟨v, hv, hr⟩, hb, hi, hk, hz⟩ hlt
    obtain ⟨s, hs⟩ : ∃ s, A.sl[x.1]? = some s := ⟨_, List.getElem?_eq_getElem x.2⟩
    have hcO := hv.cell
    have hcA := hb.cell
    have hfO := hv.frozen
    have hm := ok.len
    have hpl : pre.length ≤ 4096 := by omega
    have S := hi.slot _ _ hs
    have hu := ok.use s (List.mem_of_getElem? hs)
    have hx := x.2
    obtain ⟨hu1, hu2⟩ := hu
    have HC := Lib.hid (handle_c ab sb cap A.sl.length x.1 s.use W.drew hi.slots (by omega) (by omega) (by omega) (by simpa using S.use) hu1 (by omega))
    have hsz3 := hb.lt
    have hsz2 := hv.lt
    have hsz4 : ab < W.heap.size := hi.lta
    obtain ⟨i0, hi0, hz0, hz1, hz2⟩ := info_parts Try.info27
    obtain ⟨v', w1, hrun, hown1, hgrow, hnil⟩ := run_append_own (P := Try.prog) ((W.alloc (.cells #[.int .i64 (4096 * s.use + x.1)] 27)).drew) (w.heap.size + 3) 26 26 27 i0 (.int .i64 0) 1 8 Try.underlying26 hi0 hz0 hz1 hz2 rfl (by decide) v pre.length _ (hr.alloc _)
      ⟨W.heap.size, 0, none⟩ 1 1 [.int .i64 (4096 * s.use + x.1)] rfl (cell_one_new _ _ _) (by simp [Value.oneCell']) (by unfold maxLen; omega) (by omega) (by simp; omega)
    obtain ⟨g', cap', rfl⟩ := ownsRow_succ hown1
    have K1 : Kept (fun b => v.ownBlock = some b) W w1 := (((Kept.refl _ W).alloc _).drew).trans (Kept.of_grown hgrow) (fun i _ hi => hi)
    have hv1 := boxed_keptS hv K1 (fun h => by have := ownsRow_block hr h; omega)
    have hc1 := hv1.cell
    have hf1 := hv1.frozen
    have K2 : Kept (fun b => v.ownBlock = some b ∨ b = w.heap.size + 1) W (w1.setCell ⟨w.heap.size + 1, 0, none⟩ (.slice (some ⟨g', 0, none⟩) (pre.length + 1) cap')) :=
      (K1.mono (fun _ _ h => .inl h)).setCell _ _ (fun _ => .inr rfl)
    have hne : ∀ b, (v.ownBlock = some b ∨ b = w.heap.size + 1) → b = w.heap.size + 1 ∨ w.heap.size + 3 ≤ b := by
      rintro b (h | h)
      · exact .inr (ownsRow_block hr h).1
      · exact .inl h
    have f1 := keepsFrom_of_kept (B := w.heap.size + 1 + 1 + 1) K2 (fun b h => by
        rcases h with h | rfl
        · exact ownsRow_cells hr h
        · exact boxed_cells hv)
    have f2 : LiveKp ab sb (w.heap.size + 1 + 1) W _ := K2.mono (fun b _ h => by have := hne b h; exact ⟨by omega, by omega, by omega⟩)
    have f3 := hv1.set (.slice (some ⟨g', 0, none⟩) (pre.length + 1) cap')
    have f4 := ownsRow_set hown1 ⟨w.heap.size + 1, 0, none⟩ (.slice (some ⟨g', 0, none⟩) (pre.length + 1) cap') (by simp)
    have f5 := boxed_keptS hb K2 (fun h => by have := hne _ h; omega)
    have f6 := hi.kept K2 (fun h => by have := hne _ h; omega) (fun h => by have := hne _ h; omega)
    have f7 := hk.trans K2 (fun i hi h => by have := hne _ h; omega)
    have f8 := Nat.le_trans hz K2.size
    have FIN := Lib.hid (And.intro f1 (And.intro f2 (And.intro f3 (And.intro f4 (And.intro f5 (And.intro f6 (And.intro f7 f8)))))))
    clear f1 f2 f3 f4 f5 f6 f7 f8 hne
    have hhd : A.hnd x.1 = 4096 * s.use + x.1 := Ar.hnd_eq hs
    have HH := Lib.hid hhd
    clear hi hr hk hb hv hs S hown1 hgrow K1 hI bA bO bN hI0 K0 K2 hv1 hi0 hz0 hz1 hz2 hnil hhd
    simp [go_sem] at hrun
    have hfn28 : Fence.wide.fn 28 := trivial
    have hd : 1 ≤ n - 1 - 1 := by omega
    have hmx : Try.prog.follows .mixedOrders = true := by kernel_rfl
    gi_wp2
    gi_region_with_o (gi_at_call 28; refine (CallsIn.inRound l (callsIn_wide.2 HC.out)).mono ?_; rintro e w' ⟨rfl, rfl⟩)
    all_goals gi_wp2
    all_goals clear hrun
    all_goals exact ⟨by simpa using FIN.out.1, FIN.out.2.1, ⟨_, FIN.out.2.2.1, by rw [List.length_append, List.map_append, List.map_cons, List.map_nil, HH.out]; exact FIN.out.2.2.2.1⟩, FIN.out.2.2.2.2.1, FIN.out.2.2.2.2.2.1, FIN.out.2.2.2.2.2.2.1, FIN.out.2.2.2.2.2.2.2⟩
  case done =>
    rintro D ys W hD hys ⟨⟨v, hv, hr⟩, hb, hi, hk, hz⟩ hK
    have hcO := hv.cell
    gi_wp2
    refine ⟨by simp, .inl ⟨_, _, rfl, run_takeDeferred hK, ?_⟩⟩
    refine ⟨_, results_tmp rfl _ _ _, v, rfl, ?_, ?_⟩
    · rw [← hys, List.length_map, List.map_map]
      exact ownsRow_putObj (ownsRow_base hr (by omega)) _ hK rfl
    · exact hk.trans (kept_putObj (S := fun b => b = D) W D _ (fun _ => rfl)) (fun i hi h => by simp at hD; omega)
  case stop =>
    rintro D c pre W _ _ h _
    exact h.elim

/-- Live, of an arena. -/
theorem live_c (ab sb cap : Nat) (A : Ar) (ok : A.Ok) (w : World) (hI : IsAr w ab sb cap A) : Calls Try.prog 17 #[.pointer (some ⟨ab, 0, none⟩)] w (LivePost w A) :=
  callsIn_wide.1 (Live_in 3 (by omega) ab sb cap A ok w hI)
end Go.Proofs.Ytokmjjjedljcpaa
