/- OcW5: texts for the statements of this seat: contracts of functions, walks, plain laws. Conditions: none. -/
import Derived.Test.YthpbejdigllmbaaDoorOcW3
namespace Go.Proofs.YthpbejdigllmbaaDoor
open Go.RowKit Go.Shelf

attribute [local go_sem] Oper.semAt_some

def AttPost (xs : List Int) (w : World) (e : Ending) (w' : World) : Prop := e = .returned (.tuple #[.int .i64 (attF xs).1, .int .i64 (attF xs).2]) ∧ Kept (fun _ => False) w w'
def cnt3 (l : List (Int × Int)) : Nat := l.countP fun p => p.1 == 3
theorem cnt3_snoc (l : List (Int × Int)) (p : Int × Int) : cnt3 (l ++ [p]) = cnt3 l + if p.1 = 3 then 1 else 0 := by
  unfold cnt3
  rw [List.countP_append]
  congr 1
  by_cases h : p.1 = 3 <;> simp [h]
theorem cnt3_le (l : List (Int × Int)) : cnt3 l ≤ l.length := List.countP_le_length

theorem att_no (v : Value) (xs : List Int) (hm : xs.length ≤ 4611686018427387904) (hsp : allSp xs = false) (w : World) (T : Tbl w) (hI : Ints w v xs) :
    Calls Tryd.prog 30 #[v] w (AttPost xs w) := by
  have HC := Lib.hid (path_c v xs hm w T hI)
  have HF : Hid (attF xs = (0, 3)) := Lib.hid (by unfold attF; rw [hsp]; rfl)
  have HG : Hid (pathF xs = (0, 0, 3)) := Lib.hid (by unfold pathF; rw [hsp]; rfl)
  obtain ⟨p, cap, rfl⟩ := hI.len
  clear hsp hI T
  go_enter Tryd.func30, Tryd.ntmps30
  go_wp2_with fail
  refine HC.out.mono ?_
  rintro e w1 ⟨rfl, K⟩
  rw [HG.out]
  go_wp2
  go_ret2
  exact ⟨by rw [HF.out]; rfl, K⟩

set_option maxRecDepth 100000 in
set_option maxHeartbeats 2000000 in
theorem att_in (n : Nat) (hn : 3 ≤ n) (v : Value) (xs : List Int) (hm : xs.length ≤ 4611686018427387904) (hsp : allSp xs = true) (w0 : World) (T0 : Tbl w0) (hI0 : Ints w0 v xs) :
    CallsIn Fence.wide n Tryd.prog 30 #[v] w0 (AttPost xs w0) := by
  have h1 : 1 ≤ n := by omega
  have HC := Lib.hid (path_c v xs hm w0 T0 hI0)
  have HG : Hid (pathF xs = (lastOf (fol 0 xs), ((fol 0 xs).length : Int), 0)) := Lib.hid (by unfold pathF; rw [hsp]; rfl)
  have HSP := Lib.hid hsp
  obtain ⟨p, cap, hv⟩ := hI0.len
  obtain ⟨N, hN⟩ : ∃ N, xs.length = N := ⟨_, rfl⟩
  rw [hN] at hv hm
  subst hv
  have HN := Lib.hid hN
  clear hsp hN
  refine callsIn_of_wp_marks Tryd.func30 rfl trivial ?_ rfl
  simp only [Tryd.ntmps30, List.size_toArray, List.length_cons, List.length_nil, Nat.reduceAdd, Nat.reduceSub, Array.replicate_succ, Array.replicate_zero, List.push_toArray, List.append_toArray, List.nil_append, List.cons_append]
  gi_wp2_with fail
  refine ⟨trivial, ?_⟩
  refine (callsIn_wide.2 HC.out).mono ?_
  rintro e w ⟨rfl, KP⟩
  rw [HG.out]
  have T := T0.same KP
  have hI := hI0.same KP
  have hls := KP.size
  generalize lastOf (fol 0 xs) = lo
  generalize ((fol 0 xs).length : Int) = le
  clear HC HG
  gi_wp2_with fail
  refine ⟨trivial, ?_⟩
  refine (followed_in (n - 1) _ _ _ _).mono ?_
  rintro e w1 ⟨rfl, rfl⟩
  gi_wp2_with fail
  have bA := Boxed.new w 3 (.int .i64 0)
  have bN := Boxed.new (w.alloc (.cells #[.int .i64 0] 3)) 27 (.slice p N cap)
  rw [World.size_alloc] at bN
  have K0 : Kept (fun _ => False) w0 ((w.alloc (.cells #[.int .i64 0] 3)).alloc (.cells #[.slice p N cap] 27)) := (KP.alloc _).alloc _
  have T1 := T0.same K0
  have I1 := hI0.same K0
  have hlt := T.lt
  refine wpIn_rangeFunc_ownG rfl h1 (gf := 50) (lb := #[.pointer (some ⟨w.heap.size + 1, 0, none⟩)]) rfl trivial (enters_of Tryd.func50 (by kernel_rfl) rfl)
    (fol_stops (n - 1) (by omega) (w.heap.size + 1) w.heap.size hlt _ xs (by rw [HN.out]; exact hm) HSP.out _ (by simp) bN.cell T1 I1 (fun b hb hx => hI.block hb hx))
    (fun h k => h.trans k (fun _ _ q => q))
    (fun W l o o' hl ho hc _ => kept_putObj W l o' (fun _ => ⟨by simp at hl; omega, by simp at hl; omega⟩))
    (Below.refl _ _) (fun _ => rfl)
    (fun pre W => Boxed W w.heap.size 3 (.int .i64 (cnt3 pre)) ∧ Kept (fun _ => False) w0 W)
    (fun _ _ _ => False)
    (ownFrom_of ?own) (fun _ _ _ _ _ hs _ _ => hs)
    ⟨bA.alloc _, K0⟩
    (fun x => { tmps := #[.slice p N cap, undef, .int .i64 0, .int .i64 0, .int .i64 lo, .int .i64 le, .int .i64 0, .pointer (some ⟨w.heap.size, 0, none⟩), .int .i64 x.1, .tuple #[.int .i64 lo, .int .i64 le, .int .i64 0], .slice p N cap, .tuple #[.int .i64 lo, .int .i64 le, .int .i64 0], .int .i64 lo, .int .i64 le, .int .i64 0, .int .i64 0, .bool false, undef, .slice p N cap, .func (.func 50) #[] #[.pointer (some ⟨w.heap.size + 1, 0, none⟩)], .int .i64 x.1, .int .i64 x.2, undef, undef, undef, undef, undef], defers := [] }) ?assign ?body ?done ?stop
  case own =>
    rintro s W W' ⟨ha, hk⟩ K
    refine ⟨boxed_keptS ha K (boxed_cells ha), hk.trans K (fun i hi' h => ?_)⟩
    have := h.1; simp at this; omega
  case assign =>
    intro l x W K hK
    gi_wp2
    exact hK
  case body =>
    rintro l pre x W ⟨ha, hk⟩ hlt2
    have hcA := ha.cell
    have hfA := ha.frozen
    have hlp : (cnt3 pre : Int) ≤ 4611686018427387903 := by have := HN.out; have := cnt3_le pre; omega
    have hsn := Lib.hid (cnt3_snoc pre x)
    by_cases hx : x.1 = 3
    · have f1 := ha.set (.int .i64 (cnt3 pre + 1))
      have K1 : Kept (fun b => b = w.heap.size) W (W.setCell ⟨w.heap.size, 0, none⟩ (.int .i64 (cnt3 pre + 1))) :=
        (Kept.refl _ W).setCell _ _ (fun _ => rfl)
      have f3 := keepsFrom_of_kept (B := w.heap.size + 1 + 1) K1 (fun b h => by subst h; exact boxed_cells ha)
      have f4 : FolKp w.heap.size (w.heap.size + 1) W _ := K1.mono (fun b _ h => ⟨by omega, by omega⟩)
      have f5 := hk.trans K1 (fun i hi h => by omega)
      have HX := Lib.hid hx
      have FIN := Lib.hid (And.intro f1 (And.intro f3 (And.intro f4 f5)))
      obtain ⟨x1, x2⟩ := x
      simp only at hx
      subst hx
      clear f1 f3 f4 f5 K1 ha hk bA bN K0 T0 I1 T1 HX
      gi_wp2
      exact ⟨by simpa using FIN.out.2.1, FIN.out.2.2.1, by rw [hsn.out]; simpa using FIN.out.1, FIN.out.2.2.2⟩
    · have hq : (x.1 == 3) = false := by simpa using hx
      have HX := Lib.hid hx
      have FIN := Lib.hid (And.intro ha hk)
      clear ha hk bA bN K0 T0 I1 T1 hx
      gi_wp2
      exact ⟨KeepsFrom.refl _ _, Kept.refl _ _, by rw [hsn.out, if_neg HX.out]; simpa using FIN.out.1, FIN.out.2⟩
  case done =>
    rintro D ys W hD rfl ⟨ha, hk⟩ hK
    have hcA := ha.cell
    gi_wp2
    refine ⟨by simp, .inl ⟨_, _, rfl, run_takeDeferred hK, ?_⟩⟩
    refine ⟨_, results_tmp2 rfl _ _ _, ?_, ?_⟩
    · unfold attF
      rw [HSP.out]
      rfl
    · exact hk.trans (kept_putObj (S := fun b => b = D) W D _ (fun _ => rfl)) (fun i hi h => by simp at hD; omega)
  case stop =>
    rintro D c pre W _ _ h _
    exact h.elim
theorem att_c (v : Value) (xs : List Int) (hm : xs.length ≤ 4611686018427387904) (w : World) (T : Tbl w) (hI : Ints w v xs) :
    Calls Tryd.prog 30 #[v] w (AttPost xs w) := by
  cases h : allSp xs with
  | true => exact callsIn_wide.1 (att_in 3 (by omega) v xs hm h w T hI)
  | false => exact att_no v xs hm h w T hI
end Go.Proofs.YthpbejdigllmbaaDoor
