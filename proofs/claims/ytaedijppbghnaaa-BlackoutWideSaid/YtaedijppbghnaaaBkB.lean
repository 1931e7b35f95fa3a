/- The borders of two lists. (printed by gen_bkb.py) -/
import Derived.Test.YtaedijppbghnaaaBkW1
import Derived.Test.YtaedijppbghnaaaBkSort
import Derived.Test.YtaedijppbghnaaaGeAppN
import Derived.Test.YtaedijppbghnaaaGeArr
namespace Go.Proofs.Ytaedijppbghnaaa
open Go.RowKit
open Bk (Sp Ev ev0 ev1 evs)
theorem info76q : (Try.prog.info? 76).map (fun i => (i.zero, i.size, i.bytes)) = some (some (.agg #[.int .i64 0, .int .i64 0, .int .i64 0]), 3, 24) := by kernel_rfl
theorem el78 : ElemOk Try.prog 78 76 3 24 := .mk' Try.underlying78 info76q rfl (by decide)

theorem ev0_take {l : List Sp} {j : Nat} (h : j < l.length) : ev0 (l.take (j + 1)) = ev0 (l.take j) ++ [(l[j].1, 1, 0), (l[j].2 + 1, -1, 0)] := by
  rw [List.take_add_one, List.getElem?_eq_getElem h, ev0, List.flatMap_append]; rfl
theorem ev1_take {l : List Sp} {j : Nat} (h : j < l.length) : ev1 (l.take (j + 1)) = ev1 (l.take j) ++ [(l[j].1, 0, 1), (l[j].2 + 1, 0, -1)] := by
  rw [List.take_add_one, List.getElem?_eq_getElem h, ev1, List.flatMap_append]; rfl
theorem ev0_len (l : List Sp) : (ev0 l).length = 2 * l.length := by
  induction l with
  | nil => rfl
  | cons x l ih => rw [Bk.ev0_cons, List.length_cons, List.length_cons, ih, List.length_cons]; omega
theorem ev1_len (l : List Sp) : (ev1 l).length = 2 * l.length := by
  induction l with
  | nil => rfl
  | cons x l ih => rw [Bk.ev1_cons, List.length_cons, List.length_cons, ih, List.length_cons]; omega

/-- What stands so far: the variable, its row. -/
structure BSt (w : World) (B : Nat) (wr : World) (v : Value) (es : List Ev) : Prop where
  box : RowAt wr B [v]
  own : wr.ownsRow (B + 1) 76 3 v es.length (tc es)
  kept : Kept (fun _ => False) w wr

/-- Behind the append, and behind the store. -/
theorem bst_app {w W2 w3 : World} {v2 : Value} {es : List Ev} (K : Kept (fun _ => False) w W2) (hb : RowAt W2 w.heap.size [v2]) (ho : W2.ownsRow (w.heap.size + 1) 76 3 v2 es.length (tc es)) (K3 : Kept (fun b => v2.ownBlock = some b) W2 w3)
    (ns : List Ev) {g cg : Nat} (h3 : w3.ownsRow (w.heap.size + 1) 76 3 (.slice (some ⟨g, 0, none⟩) (es.length + ns.length) cg) (es.length + ns.length) (tc es ++ tc ns)) :
    RowAt w3 w.heap.size [v2] ∧ BSt w w.heap.size (w3.setCell ⟨w.heap.size, 0, none⟩ (.slice (some ⟨g, 0, none⟩) (es.length + ns.length) cg)) (.slice (some ⟨g, 0, none⟩) (es.length + ns.length) cg) (es ++ ns) := by
  have hne : ∀ b, v2.ownBlock = some b → w.heap.size + 1 ≤ b := fun b h => (ownsRow_block ho h).1
  have r3 : RowAt w3 w.heap.size [v2] := hb.kept K3 (fun h => by have := hne _ h; omega)
  have kk : Kept (fun b => b = w.heap.size) w3 (w3.setCell ⟨w.heap.size, 0, none⟩ (.slice (some ⟨g, 0, none⟩) (es.length + ns.length) cg)) := (Kept.refl _ _).setCell _ _ (by simp)
  have hg := (ownsRow_block h3 (b := g) rfl).1
  refine ⟨r3, r3.set (by simp) _, ?_, ?_⟩
  · rw [List.length_append, tc_append]
    exact ownsRow_kept h3 kk (fun b hb hb2 h => by omega)
  · exact (K.trans K3 (fun i hi h => by have := hne _ h; omega)).trans kk (fun i hi h => by omega)

theorem two_new (w : World) (o : Obj) (cs ds : Array Value) (t : Nat) : Kept (fun _ => False) w (((w.alloc o).alloc (.cells cs t)).alloc (.cells ds t)).drew ∧ RowAt (((w.alloc o).alloc (.cells cs t)).alloc (.cells ds t)).drew (w.heap.size + 1) cs.toList ∧ RowAt (((w.alloc o).alloc (.cells cs t)).alloc (.cells ds t)).drew (w.heap.size + 1 + 1) ds.toList := by
  refine ⟨((((Kept.refl _ _).alloc o).alloc _).alloc _).drew, ?_, ?_⟩
  · have h := RowAt.new (w.alloc o) t cs
    rw [show (w.alloc o).heap.size = w.heap.size + 1 by simp] at h
    exact h.same (((Kept.refl _ _).alloc _).drew)
  · have h := RowAt.new ((w.alloc o).alloc (.cells cs t)) t ds
    rw [show ((w.alloc o).alloc (.cells cs t)).heap.size = w.heap.size + 1 + 1 by simp] at h
    exact h.same ((Kept.refl _ _).drew)

/-- What borders hands back. -/
def BordersPost (a b : List Sp) (w : World) (e : Ending) (w' : World) : Prop :=
  ∃ B v s, e = .returned (.func (.func 61) #[] #[.pointer (some ⟨B, 0, none⟩)]) ∧ w.heap.size ≤ B ∧ RowAt w' B [v] ∧ s.Perm (evs a b) ∧ s.Pairwise (fun x y => x.1 ≤ y.1) ∧ Trs w' v s ∧
      (∀ c, v.ownBlock = some c → w.heap.size ≤ c ∧ c ≠ B ∧ c < w'.heap.size) ∧ Kept (fun _ => False) w w'

set_option maxHeartbeats 4000000 in
theorem borders_c {w : World} {va vb : Value} {a b : List Sp} (ha : Prs w va a) (hb : Prs w vb b) (hla : a.length ≤ 100000) (hlb : b.length ≤ 100000) (ga : ∀ s ∈ a, 0 ≤ s.2 ∧ s.2 ≤ 253402300799) (gb : ∀ s ∈ b, 0 ≤ s.2 ∧ s.2 ≤ 253402300799) :
    Calls Try.prog 57 #[va, vb] w (BordersPost a b w) := by
  have HA := Lib.hid ha
  have HB := Lib.hid hb
  have HG := Lib.hid (And.intro ga gb)
  obtain ⟨aa, ca, rfl⟩ := ha.len
  obtain ⟨ab, cb, rfl⟩ := hb.len
  clear ha hb ga gb
  have i0 := fun W => run_index1 (P := Try.prog) 65 23 2 #[.slice aa a.length ca, .slice ab b.length cb] 0 (.slice aa a.length ca) W Try.underlying65 Try.isAgg23 Try.sizeOf23 (by decide) rfl
  rw [show ((0 : Nat) : Int) = 0 from rfl] at i0
  have i1 := fun W => run_index1 (P := Try.prog) 65 23 2 #[.slice aa a.length ca, .slice ab b.length cb] 1 (.slice ab b.length cb) W Try.underlying65 Try.isAgg23 Try.sizeOf23 (by decide) rfl
  rw [show ((1 : Nat) : Int) = 1 from rfl] at i1
  go_enter Try.func57, Try.ntmps57
  go_wp2
  have hst : BSt w w.heap.size (w.alloc (.cells #[.slice none 0 0] 78)) (.slice none 0 0) [] :=
    ⟨RowAt.new w 78 #[.slice none 0 0], ⟨rfl, .inl ⟨rfl, rfl⟩⟩, (Kept.refl _ _).alloc _⟩
  have HST := Lib.hid hst
  clear hst
  go_loopw [15] (fun i wr => ∃ v es, BSt w w.heap.size wr v es ∧ ((i = .int .i64 0 ∧ es = []) ∨ (i = .int .i64 1 ∧ es = ev0 a) ∨ (i = .int .i64 2 ∧ es = evs a b))) (fun i _ => match i with | .int _ x => (2 - x).toNat | _ => 0)
  case atStart => exact ⟨_, _, HST.out, .inl ⟨rfl, rfl⟩⟩
  case round =>
    obtain ⟨v, es, hs, hes⟩ := hrel
    have HS := Lib.hid hs
    clear hs HST
    rcases hes with ⟨rfl, rfl⟩ | ⟨rfl, rfl⟩ | ⟨rfl, rfl⟩
    · obtain ⟨wa, hwa⟩ : ∃ wa : World, wa = wr := ⟨_, rfl⟩
      subst hwa
      go_wp2
      go_loopw [21] (fun i wr => ∃ j : Nat, j ≤ a.length ∧ i = .int .i64 j ∧ ∃ v, BSt w w.heap.size wr v (ev0 (a.take j))) (fun i _ => match i with | .int _ x => (a.length - x).toNat | _ => 0)
      case atStart => exact ⟨0, by omega, rfl, _, HS.out⟩
      case round =>
        obtain ⟨j, hj, rfl, v2, hs2⟩ := hrel
        obtain ⟨E, hE⟩ : ∃ E, ev0 (a.take j) = E := ⟨_, rfl⟩
        rw [hE] at hs2
        have HE := Lib.hid hE
        have HS2 := Lib.hid hs2
        clear hs2 hE
        by_cases hlt : j < a.length
        · obtain ⟨b0, off, cap', hv, hb0, hcell⟩ := (HA.out.same HS2.out.kept).pos (by omega)
          injection hv with e1 e2 e3
          subst e1 e3
          have c0 := (Prs.at hcell hlt).1
          have c1 := (Prs.at hcell hlt).2
          clear hcell
          have hx := HG.out.1 a[j] (List.getElem_mem hlt)
          obtain ⟨x, hxx⟩ : ∃ x, x = a[j] := ⟨_, rfl⟩
          rw [← hxx] at c0 c1 hx
          have HX := Lib.hid hxx
          clear hxx
          obtain ⟨x0, x1⟩ := x
          simp only at c0 c1 hx
          have hw : wrap64 (x1 + 1) = x1 + 1 := IntWalk.wrap64_in _ (by omega)
          have hbx : ∀ o1 o2 o3, (((wr.alloc o1).alloc o2).alloc o3).cell? ⟨w.heap.size, 0, none⟩ = some v2 := fun o1 o2 o3 =>
            (HS2.out.box.same ((((Kept.refl _ _).alloc o1).alloc o2).alloc o3)).get (j := 0) rfl
          go_wp2
          go_region
          · go_upto_region 10 with fail
            have hw1 : ∀ W2, (((wr.alloc (.cells #[.int .i64 x0, .int .i64 x1] 42)).alloc (.cells #[.int .i64 x0, .int .i64 1, .int .i64 0] 76)).alloc (.cells #[.int .i64 (x1 + 1), .int .i64 (-1), .int .i64 0] 76)).drew = W2 → Kept (fun _ => False) wr W2 ∧ RowAt W2 (wr.heap.size + 1) [.int .i64 x0, .int .i64 1, .int .i64 0] ∧ RowAt W2 (wr.heap.size + 1 + 1) [.int .i64 (x1 + 1), .int .i64 (-1), .int .i64 0] := fun W2 h => by
              subst h
              exact two_new _ _ _ _ _
            generalize (((wr.alloc (.cells #[.int .i64 x0, .int .i64 x1] 42)).alloc (.cells #[.int .i64 x0, .int .i64 1, .int .i64 0] 76)).alloc (.cells #[.int .i64 (x1 + 1), .int .i64 (-1), .int .i64 0] 76)).drew = W2 at hw1 ⊢
            obtain ⟨K2, P1, P2⟩ := hw1 W2 rfl
            clear hw1 hbx c0 c1
            have p0 := P1.get (j := 0) rfl
            have p1 := P1.get (j := 1) rfl
            have p2 := P1.get (j := 2) rfl
            have q0 := P2.get (j := 0) rfl
            have q1 := P2.get (j := 1) rfl
            have q2 := P2.get (j := 2) rfl
            have B2 := HS2.out.box.same K2
            have b0 := B2.get (j := 0) rfl
            have hown := ownsRow_kept HS2.out.own K2 (fun _ _ _ h => h)
            have K3 := HS2.out.kept.trans K2 (fun _ _ h => h)
            have HZ := Lib.hid (And.intro K3 (And.intro B2 hown))
            have hsz : w.heap.size + 1 ≤ W2.heap.size := B2.lt
            have hlen : E.length ≤ 1000000 := by (rw [← HE.out, ev0_len, List.length_take]; omega)
            clear K2 P1 P2 B2 hown K3
            go_wp2_with (at_builtin; refine wpList_appN el78 rfl (.tmp 38) (.tmp 41) rfl (w.heap.size + 1) v2 E.length 2 (tc E) rfl HZ.out.2.2 rfl ?c5 (by omega) ?c1 ?c2 ?c3 ?c4 ?_)
            case c5 => rfl
            case c1 => intro u hu; simp at hu; rcases hu with rfl | rfl | rfl | rfl | rfl | rfl <;> rfl
            case c2 => unfold maxLen; omega
            case c3 => omega
            case c4 => omega
            intro g cg w3 h3 K3 _
            have st := bst_app HZ.out.1 HZ.out.2.1 HZ.out.2.2 K3 [(x0, 1, 0), (x1 + 1, -1, 0)] h3
            have b0' := st.1.get (j := 0) rfl
            have f0' := st.1.fz 0
            have HT := Lib.hid st.2
            clear st h3 K3 HZ p0 p1 p2 q0 q1 q2 b0 hsz
            go_wp2
            go_roundw
            case rel => exact ⟨j + 1, by omega, by go_num, _, by rw [ev0_take hlt, ← HX.out, HE.out]; exact HT.out⟩
            case measure => simp; omega
          · go_upto_region 10 with fail
            have hw1 : ∀ W2, (((wr.alloc (.cells #[.int .i64 x0, .int .i64 x1] 42)).alloc (.cells #[.int .i64 (x1 + 1), .int .i64 (-1), .int .i64 0] 76)).alloc (.cells #[.int .i64 x0, .int .i64 1, .int .i64 0] 76)).drew = W2 → Kept (fun _ => False) wr W2 ∧ RowAt W2 (wr.heap.size + 1 + 1) [.int .i64 x0, .int .i64 1, .int .i64 0] ∧ RowAt W2 (wr.heap.size + 1) [.int .i64 (x1 + 1), .int .i64 (-1), .int .i64 0] := fun W2 h => by
              subst h
              exact ⟨(two_new _ _ _ _ _).1, (two_new _ _ _ _ _).2.2, (two_new _ _ _ _ _).2.1⟩
            generalize (((wr.alloc (.cells #[.int .i64 x0, .int .i64 x1] 42)).alloc (.cells #[.int .i64 (x1 + 1), .int .i64 (-1), .int .i64 0] 76)).alloc (.cells #[.int .i64 x0, .int .i64 1, .int .i64 0] 76)).drew = W2 at hw1 ⊢
            obtain ⟨K2, P1, P2⟩ := hw1 W2 rfl
            clear hw1 hbx c0 c1
            have p0 := P1.get (j := 0) rfl
            have p1 := P1.get (j := 1) rfl
            have p2 := P1.get (j := 2) rfl
            have q0 := P2.get (j := 0) rfl
            have q1 := P2.get (j := 1) rfl
            have q2 := P2.get (j := 2) rfl
            have B2 := HS2.out.box.same K2
            have b0 := B2.get (j := 0) rfl
            have hown := ownsRow_kept HS2.out.own K2 (fun _ _ _ h => h)
            have K3 := HS2.out.kept.trans K2 (fun _ _ h => h)
            have HZ := Lib.hid (And.intro K3 (And.intro B2 hown))
            have hsz : w.heap.size + 1 ≤ W2.heap.size := B2.lt
            have hlen : E.length ≤ 1000000 := by (rw [← HE.out, ev0_len, List.length_take]; omega)
            clear K2 P1 P2 B2 hown K3
            go_wp2_with (at_builtin; refine wpList_appN el78 rfl (.tmp 38) (.tmp 41) rfl (w.heap.size + 1) v2 E.length 2 (tc E) rfl HZ.out.2.2 rfl ?c5 (by omega) ?c1 ?c2 ?c3 ?c4 ?_)
            case c5 => rfl
            case c1 => intro u hu; simp at hu; rcases hu with rfl | rfl | rfl | rfl | rfl | rfl <;> rfl
            case c2 => unfold maxLen; omega
            case c3 => omega
            case c4 => omega
            intro g cg w3 h3 K3 _
            have st := bst_app HZ.out.1 HZ.out.2.1 HZ.out.2.2 K3 [(x0, 1, 0), (x1 + 1, -1, 0)] h3
            have b0' := st.1.get (j := 0) rfl
            have f0' := st.1.fz 0
            have HT := Lib.hid st.2
            clear st h3 K3 HZ p0 p1 p2 q0 q1 q2 b0 hsz
            go_wp2
            go_roundw
            case rel => exact ⟨j + 1, by omega, by go_num, _, by rw [ev0_take hlt, ← HX.out, HE.out]; exact HT.out⟩
            case measure => simp; omega
        · obtain rfl : j = a.length := by omega
          go_wp2
          go_roundw
          case rel => exact ⟨_, _, HS2.out, .inr (.inl ⟨by go_num, by rw [← HE.out, List.take_length]⟩)⟩
          case measure => simp
    · obtain ⟨wa, hwa⟩ : ∃ wa : World, wa = wr := ⟨_, rfl⟩
      subst hwa
      go_wp2
      go_loopw [21] (fun i wr => ∃ j : Nat, j ≤ b.length ∧ i = .int .i64 j ∧ ∃ v, BSt w w.heap.size wr v (ev0 a ++ ev1 (b.take j))) (fun i _ => match i with | .int _ x => (b.length - x).toNat | _ => 0)
      case atStart => exact ⟨0, by omega, rfl, _, by rw [List.take_zero]; simpa [ev1] using HS.out⟩
      case round =>
        obtain ⟨j, hj, rfl, v2, hs2⟩ := hrel
        obtain ⟨E, hE⟩ : ∃ E, ev0 a ++ ev1 (b.take j) = E := ⟨_, rfl⟩
        rw [hE] at hs2
        have HE := Lib.hid hE
        have HS2 := Lib.hid hs2
        clear hs2 hE
        by_cases hlt : j < b.length
        · obtain ⟨b0, off, cap', hv, hb0, hcell⟩ := (HB.out.same HS2.out.kept).pos (by omega)
          injection hv with e1 e2 e3
          subst e1 e3
          have c0 := (Prs.at hcell hlt).1
          have c1 := (Prs.at hcell hlt).2
          clear hcell
          have hx := HG.out.2 b[j] (List.getElem_mem hlt)
          obtain ⟨x, hxx⟩ : ∃ x, x = b[j] := ⟨_, rfl⟩
          rw [← hxx] at c0 c1 hx
          have HX := Lib.hid hxx
          clear hxx
          obtain ⟨x0, x1⟩ := x
          simp only at c0 c1 hx
          have hw : wrap64 (x1 + 1) = x1 + 1 := IntWalk.wrap64_in _ (by omega)
          have hbx : ∀ o1 o2 o3, (((wr.alloc o1).alloc o2).alloc o3).cell? ⟨w.heap.size, 0, none⟩ = some v2 := fun o1 o2 o3 =>
            (HS2.out.box.same ((((Kept.refl _ _).alloc o1).alloc o2).alloc o3)).get (j := 0) rfl
          go_wp2
          go_region
          · go_upto_region 10 with fail
            have hw1 : ∀ W2, (((wr.alloc (.cells #[.int .i64 x0, .int .i64 x1] 42)).alloc (.cells #[.int .i64 x0, .int .i64 0, .int .i64 1] 76)).alloc (.cells #[.int .i64 (x1 + 1), .int .i64 0, .int .i64 (-1)] 76)).drew = W2 → Kept (fun _ => False) wr W2 ∧ RowAt W2 (wr.heap.size + 1) [.int .i64 x0, .int .i64 0, .int .i64 1] ∧ RowAt W2 (wr.heap.size + 1 + 1) [.int .i64 (x1 + 1), .int .i64 0, .int .i64 (-1)] := fun W2 h => by
              subst h
              exact two_new _ _ _ _ _
            generalize (((wr.alloc (.cells #[.int .i64 x0, .int .i64 x1] 42)).alloc (.cells #[.int .i64 x0, .int .i64 0, .int .i64 1] 76)).alloc (.cells #[.int .i64 (x1 + 1), .int .i64 0, .int .i64 (-1)] 76)).drew = W2 at hw1 ⊢
            obtain ⟨K2, P1, P2⟩ := hw1 W2 rfl
            clear hw1 hbx c0 c1
            have p0 := P1.get (j := 0) rfl
            have p1 := P1.get (j := 1) rfl
            have p2 := P1.get (j := 2) rfl
            have q0 := P2.get (j := 0) rfl
            have q1 := P2.get (j := 1) rfl
            have q2 := P2.get (j := 2) rfl
            have B2 := HS2.out.box.same K2
            have b0 := B2.get (j := 0) rfl
            have hown := ownsRow_kept HS2.out.own K2 (fun _ _ _ h => h)
            have K3 := HS2.out.kept.trans K2 (fun _ _ h => h)
            have HZ := Lib.hid (And.intro K3 (And.intro B2 hown))
            have hsz : w.heap.size + 1 ≤ W2.heap.size := B2.lt
            have hlen : E.length ≤ 1000000 := by (rw [← HE.out, List.length_append, ev0_len, ev1_len, List.length_take]; omega)
            clear K2 P1 P2 B2 hown K3
            go_wp2_with (at_builtin; refine wpList_appN el78 rfl (.tmp 38) (.tmp 41) rfl (w.heap.size + 1) v2 E.length 2 (tc E) rfl HZ.out.2.2 rfl ?c5 (by omega) ?c1 ?c2 ?c3 ?c4 ?_)
            case c5 => rfl
            case c1 => intro u hu; simp at hu; rcases hu with rfl | rfl | rfl | rfl | rfl | rfl <;> rfl
            case c2 => unfold maxLen; omega
            case c3 => omega
            case c4 => omega
            intro g cg w3 h3 K3 _
            have st := bst_app HZ.out.1 HZ.out.2.1 HZ.out.2.2 K3 [(x0, 0, 1), (x1 + 1, 0, -1)] h3
            have b0' := st.1.get (j := 0) rfl
            have f0' := st.1.fz 0
            have HT := Lib.hid st.2
            clear st h3 K3 HZ p0 p1 p2 q0 q1 q2 b0 hsz
            go_wp2
            go_roundw
            case rel => exact ⟨j + 1, by omega, by go_num, _, by rw [ev1_take hlt, ← HX.out, ← List.append_assoc, HE.out]; exact HT.out⟩
            case measure => simp; omega
          · go_upto_region 10 with fail
            have hw1 : ∀ W2, (((wr.alloc (.cells #[.int .i64 x0, .int .i64 x1] 42)).alloc (.cells #[.int .i64 (x1 + 1), .int .i64 0, .int .i64 (-1)] 76)).alloc (.cells #[.int .i64 x0, .int .i64 0, .int .i64 1] 76)).drew = W2 → Kept (fun _ => False) wr W2 ∧ RowAt W2 (wr.heap.size + 1 + 1) [.int .i64 x0, .int .i64 0, .int .i64 1] ∧ RowAt W2 (wr.heap.size + 1) [.int .i64 (x1 + 1), .int .i64 0, .int .i64 (-1)] := fun W2 h => by
              subst h
              exact ⟨(two_new _ _ _ _ _).1, (two_new _ _ _ _ _).2.2, (two_new _ _ _ _ _).2.1⟩
            generalize (((wr.alloc (.cells #[.int .i64 x0, .int .i64 x1] 42)).alloc (.cells #[.int .i64 (x1 + 1), .int .i64 0, .int .i64 (-1)] 76)).alloc (.cells #[.int .i64 x0, .int .i64 0, .int .i64 1] 76)).drew = W2 at hw1 ⊢
            obtain ⟨K2, P1, P2⟩ := hw1 W2 rfl
            clear hw1 hbx c0 c1
            have p0 := P1.get (j := 0) rfl
            have p1 := P1.get (j := 1) rfl
            have p2 := P1.get (j := 2) rfl
            have q0 := P2.get (j := 0) rfl
            have q1 := P2.get (j := 1) rfl
            have q2 := P2.get (j := 2) rfl
            have B2 := HS2.out.box.same K2
            have b0 := B2.get (j := 0) rfl
            have hown := ownsRow_kept HS2.out.own K2 (fun _ _ _ h => h)
            have K3 := HS2.out.kept.trans K2 (fun _ _ h => h)
            have HZ := Lib.hid (And.intro K3 (And.intro B2 hown))
            have hsz : w.heap.size + 1 ≤ W2.heap.size := B2.lt
            have hlen : E.length ≤ 1000000 := by (rw [← HE.out, List.length_append, ev0_len, ev1_len, List.length_take]; omega)
            clear K2 P1 P2 B2 hown K3
            go_wp2_with (at_builtin; refine wpList_appN el78 rfl (.tmp 38) (.tmp 41) rfl (w.heap.size + 1) v2 E.length 2 (tc E) rfl HZ.out.2.2 rfl ?c5 (by omega) ?c1 ?c2 ?c3 ?c4 ?_)
            case c5 => rfl
            case c1 => intro u hu; simp at hu; rcases hu with rfl | rfl | rfl | rfl | rfl | rfl <;> rfl
            case c2 => unfold maxLen; omega
            case c3 => omega
            case c4 => omega
            intro g cg w3 h3 K3 _
            have st := bst_app HZ.out.1 HZ.out.2.1 HZ.out.2.2 K3 [(x0, 0, 1), (x1 + 1, 0, -1)] h3
            have b0' := st.1.get (j := 0) rfl
            have f0' := st.1.fz 0
            have HT := Lib.hid st.2
            clear st h3 K3 HZ p0 p1 p2 q0 q1 q2 b0 hsz
            go_wp2
            go_roundw
            case rel => exact ⟨j + 1, by omega, by go_num, _, by rw [ev1_take hlt, ← HX.out, ← List.append_assoc, HE.out]; exact HT.out⟩
            case measure => simp; omega
        · obtain rfl : j = b.length := by omega
          go_wp2
          go_roundw
          case rel => exact ⟨_, _, HS2.out, .inr (.inr ⟨by go_num, by rw [← HE.out, List.take_length]; rfl⟩)⟩
          case measure => simp
    · have hbx := HS.out.box.get (j := 0) rfl
      have hev : (evs a b).length ≤ 1000000 := by rw [evs, List.length_append, ev0_len, ev1_len]; omega
      have HC := Lib.hid (sortB_c (evs a b) hev HS.out.own)
      have hblk : ∀ c, v.ownBlock = some c → w.heap.size ≤ c ∧ c ≠ w.heap.size ∧ c < wr.heap.size := fun c h => by have := ownsRow_block HS.out.own h; omega
      have HBL := Lib.hid hblk
      clear hev hblk
      go_wp2_with (go_at_call 59; refine HC.out.mono ?_; rintro e w' ⟨rfl, d, hd⟩)
      go_ret
      obtain ⟨hp, hs, ht, K⟩ := hd
      exact ⟨w.heap.size, v, d, rfl, Nat.le_refl _, HS.out.box.kept K (fun h => (HBL.out _ h).2.1 rfl), hp, hs, ht, (fun c h => ⟨(HBL.out c h).1, (HBL.out c h).2.1, Nat.lt_of_lt_of_le (HBL.out c h).2.2 K.size⟩), HS.out.kept.trans K (fun i hi h => by have := (HBL.out _ h).1; omega)⟩
end Go.Proofs.Ytaedijppbghnaaa
