/- OcW3: texts for the statements of this seat: contracts of functions, walks, plain laws. Conditions: none. -/
import Derived.Test.YthpbejdigllmbaaDoorOcW2
namespace Go.Proofs.YthpbejdigllmbaaDoor
open Go.RowKit Go.Shelf

attribute [local go_sem] Oper.semAt_some

theorem followed_in (n : Nat) (p : Option Addr) (L cap : Nat) (w : World) :
    CallsIn Fence.wide n Tryd.prog 42 #[.slice p L cap] w fun e w' => e = .returned (.func (.func 50) #[] #[.pointer (some ⟨w.heap.size, 0, none⟩)]) ∧ w' = w.alloc (.cells #[.slice p L cap] 27) := by
  refine callsIn_of_wp Tryd.func42 rfl trivial ?_ rfl
  simp only [Tryd.ntmps42, List.size_toArray, List.length_cons, List.length_nil, Nat.reduceAdd, Nat.reduceSub, Array.replicate_succ, Array.replicate_zero, List.push_toArray, List.append_toArray, List.nil_append, List.cons_append]
  gi_wp2
  go_ret
  exact ⟨rfl, rfl⟩

theorem fol_stops (n : Nat) (hn : 1 ≤ n) (Bn m : Nat) (hm2 : 1 < m) (v : Value) (xs : List Int) (hm : xs.length ≤ 4611686018427387904) (hsp : allSp xs = true) (w : World) (hBn : Bn < w.heap.size)
    (hc : w.cell? ⟨Bn, 0, none⟩ = some v) (T : Tbl w) (hI : Ints w v xs) (hIm : ∀ b, v.ownBlock = some b → 0 < xs.length → b < m) :
    SeqStopsK Fence.wide n Tryd.prog 50 #[.pointer (some ⟨Bn, 0, none⟩)] (fun x : Int × Int => #[Value.int .i64 x.1, .int .i64 x.2]) (FolKp m Bn) (fun ys => ys = fol 0 xs) (fun pre => pre <+: fol 0 xs) xs.length w := fun l J Jx W hW _ _ hY h0 => by
  have hK : Kept (fun _ => False) w W := ⟨hW.os, hW.tape, hW.output, hW.size, fun k hk _ => hW.block k hk⟩
  exact fol_in n hn l Bn m hm2 v xs hm hsp J Jx hY W ((hK.cell (a := ⟨Bn, 0, none⟩) hBn (fun h => h)).trans hc) (T.same hK) (hI.same hK) hIm h0

def PathPost (xs : List Int) (w : World) (e : Ending) (w' : World) : Prop := e = .returned (.tuple #[.int .i64 (pathF xs).1, .int .i64 (pathF xs).2.1, .int .i64 (pathF xs).2.2]) ∧ Kept (fun _ => False) w w'
set_option maxRecDepth 100000 in
set_option maxHeartbeats 2000000 in
theorem path_in (n : Nat) (hn : 3 ≤ n) (v : Value) (xs : List Int) (hm : xs.length ≤ 4611686018427387904) (hsp : allSp xs = true) (w : World) (T : Tbl w) (hI : Ints w v xs) :
    CallsIn Fence.wide n Tryd.prog 16 #[v] w (PathPost xs w) := by
  have h1 : 1 ≤ n := by omega
  have HC := Lib.hid (containsf_c v xs false w hI hm (by rw [hsp]; rfl))
  have HSP := Lib.hid hsp
  obtain ⟨p, cap, hv⟩ := hI.len
  obtain ⟨N, hN⟩ : ∃ N, xs.length = N := ⟨_, rfl⟩
  rw [hN] at hv hm
  subst hv
  have HN := Lib.hid hN
  clear hsp hN
  refine callsIn_of_wp_marks Tryd.func16 rfl trivial ?_ rfl
  simp only [Tryd.ntmps16, List.size_toArray, List.length_cons, List.length_nil, Nat.reduceAdd, Nat.reduceSub, Array.replicate_succ, Array.replicate_zero, List.push_toArray, List.append_toArray, List.nil_append, List.cons_append]
  gi_wp2_with fail
  refine ⟨trivial, ?_⟩
  refine (callsIn_wide.2 HC.out).mono ?_
  rintro e w1 ⟨rfl, rfl⟩
  gi_wp2_with fail
  refine ⟨trivial, ?_⟩
  refine (followed_in (n - 1) _ _ _ _).mono ?_
  rintro e w1 ⟨rfl, rfl⟩
  gi_wp2_with fail
  have bA := Boxed.new w 3 (.int .i64 0)
  have bB := Boxed.new (w.alloc (.cells #[.int .i64 0] 3)) 3 (.int .i64 0)
  have bN := Boxed.new ((w.alloc (.cells #[.int .i64 0] 3)).alloc (.cells #[.int .i64 0] 3)) 27 (.slice p N cap)
  rw [World.size_alloc] at bB bN
  rw [World.size_alloc] at bN
  have K0 : Kept (fun _ => False) w (((w.alloc (.cells #[.int .i64 0] 3)).alloc (.cells #[.int .i64 0] 3)).alloc (.cells #[.slice p N cap] 27)) := (((Kept.refl _ w).alloc _).alloc _).alloc _
  have T0 := T.same K0
  have I0 := hI.same K0
  have hlt := T.lt
  refine wpIn_rangeFunc_ownG rfl h1 (gf := 50) (lb := #[.pointer (some ⟨w.heap.size + 1 + 1, 0, none⟩)]) rfl trivial (enters_of Tryd.func50 (by kernel_rfl) rfl)
    (fol_stops (n - 1) (by omega) (w.heap.size + 1 + 1) w.heap.size hlt _ xs (by rw [HN.out]; exact hm) HSP.out _ (by simp) bN.cell T0 I0 (fun b hb hx => hI.block hb hx))
    (fun h k => h.trans k (fun _ _ q => q))
    (fun W l o o' hl ho hc _ => kept_putObj W l o' (fun _ => ⟨by simp at hl; omega, by simp at hl; omega⟩))
    (Below.refl _ _) (fun _ => rfl)
    (fun pre W => Boxed W w.heap.size 3 (.int .i64 (lastOf pre)) ∧ Boxed W (w.heap.size + 1) 3 (.int .i64 pre.length) ∧ Kept (fun _ => False) w W)
    (fun _ _ _ => False)
    (ownFrom_of ?own) (fun _ _ _ _ _ hs _ _ => hs)
    ⟨(bA.alloc _).alloc _, bB.alloc _, K0⟩
    (fun x => { tmps := #[.slice p N cap, undef, .int .i64 0, .int .i64 0, .int .i64 0, .pointer (some ⟨w.heap.size, 0, none⟩), .pointer (some ⟨w.heap.size + 1, 0, none⟩), undef, .int .i64 x.2, .slice p N cap, .bool false, .slice p N cap, .func (.func 50) #[] #[.pointer (some ⟨w.heap.size + 1 + 1, 0, none⟩)], .int .i64 x.1, .int .i64 x.2, undef, undef, undef, undef, undef], defers := [] }) ?assign ?body ?done ?stop
  case own =>
    rintro s W W' ⟨ha, hb, hk⟩ K
    refine ⟨boxed_keptS ha K (boxed_cells ha), boxed_keptS hb K (boxed_cells hb), hk.trans K (fun i hi' h => ?_)⟩
    have := h.1; simp at this; omega
  case assign =>
    intro l x W K hK
    gi_wp2
    exact hK
  case body =>
    rintro l pre x W ⟨ha, hb, hk⟩ hlt2
    have hcA := ha.cell
    have hcB := hb.cell
    have hfA := ha.frozen
    have hfB := hb.frozen
    have hlp : pre.length ≤ 4611686018427387903 := by have := HN.out; omega
    have f1 := ha.set (.int .i64 x.2)
    have hb1 := boxed_keptS hb (Kept.setCell (Kept.refl (fun b => b = w.heap.size) W) ⟨w.heap.size, 0, none⟩ (.int .i64 x.2) (fun _ => rfl)) (by omega)
    have f2 := hb1.set (.int .i64 (pre.length + 1))
    have K1 : Kept (fun b => b = w.heap.size ∨ b = w.heap.size + 1) W ((W.setCell ⟨w.heap.size, 0, none⟩ (.int .i64 x.2)).setCell ⟨w.heap.size + 1, 0, none⟩ (.int .i64 (pre.length + 1))) :=
      ((Kept.refl _ W).setCell _ _ (fun _ => .inl rfl)).setCell _ _ (fun _ => .inr rfl)
    have f1 := boxed_keptS f1 (Kept.setCell (Kept.refl (fun b => b = w.heap.size + 1) _) ⟨w.heap.size + 1, 0, none⟩ (.int .i64 (pre.length + 1)) (fun _ => rfl)) (by omega)
    have f3 := keepsFrom_of_kept (B := w.heap.size + 1 + 1 + 1) K1 (fun b h => by
        rcases h with rfl | rfl
        · exact boxed_cells ha
        · exact boxed_cells hb)
    have f4 : FolKp w.heap.size (w.heap.size + 1 + 1) W _ := K1.mono (fun b _ h => ⟨by omega, by omega⟩)
    have f5 := hk.trans K1 (fun i hi h => by omega)
    have FIN := Lib.hid (And.intro f1 (And.intro f2 (And.intro f3 (And.intro f4 f5))))
    clear f1 f2 f3 f4 f5 K1 hb1 ha hb hk bA bB bN K0 T0 I0
    gi_wp2
    exact ⟨by simpa using FIN.out.2.2.1, FIN.out.2.2.2.1, by rw [lastOf_snoc]; exact FIN.out.1, by rw [List.length_append]; exact FIN.out.2.1, FIN.out.2.2.2.2⟩
  case done =>
    rintro D ys W hD rfl ⟨ha, hb, hk⟩ hK
    have hcA := ha.cell
    have hcB := hb.cell
    gi_wp2
    gi_region
    all_goals gi_wp2
    refine ⟨by simp, .inl ⟨_, _, rfl, run_takeDeferred (show W.drew.heap[D]? = _ from hK), ?_⟩⟩
    refine ⟨_, results_tmp3 rfl _ _ _, ?_, ?_⟩
    · unfold pathF
      rw [HSP.out]
      rfl
    · exact hk.drew.trans (kept_putObj (S := fun b => b = D) W.drew D _ (fun _ => rfl)) (fun i hi h => by simp at hD; omega)
  case stop =>
    rintro D c pre W _ _ h _
    exact h.elim
theorem path_no (v : Value) (xs : List Int) (hm : xs.length ≤ 4611686018427387904) (hsp : allSp xs = false) (w : World) (hI : Ints w v xs) :
    Calls Tryd.prog 16 #[v] w (PathPost xs w) := by
  have HC := Lib.hid (containsf_c v xs true w hI hm (by rw [hsp]; rfl))
  have HF : Hid (pathF xs = (0, 0, 3)) := Lib.hid (by unfold pathF; rw [hsp]; rfl)
  obtain ⟨p, cap, rfl⟩ := hI.len
  clear hsp hI
  go_enter Tryd.func16, Tryd.ntmps16
  go_wp2_with fail
  refine HC.out.mono ?_
  rintro e w1 ⟨rfl, rfl⟩
  go_wp2
  go_ret3
  exact ⟨by rw [HF.out]; rfl, Kept.refl _ _⟩
theorem path_c (v : Value) (xs : List Int) (hm : xs.length ≤ 4611686018427387904) (w : World) (T : Tbl w) (hI : Ints w v xs) :
    Calls Tryd.prog 16 #[v] w (PathPost xs w) := by
  cases h : allSp xs with
  | true => exact callsIn_wide.1 (path_in 3 (by omega) v xs hm h w T hI)
  | false => exact path_no v xs hm h w hI
end Go.Proofs.YthpbejdigllmbaaDoor
