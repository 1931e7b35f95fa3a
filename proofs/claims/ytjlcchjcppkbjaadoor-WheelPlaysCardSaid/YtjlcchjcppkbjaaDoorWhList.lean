/- WhList: texts for the statements of this seat: contracts of functions, walks, plain laws. Conditions: none. -/
import Derived.Deep.RegionHeld3
import Derived.Test.YtjlcchjcppkbjaaDoorWhNx
import Derived.Test.YtjlcchjcppkbjaaDoorGeAll
set_option linter.all false
/- List. -/
namespace Go.Proofs.YtjlcchjcppkbjaaDoor
open Go.RowKit
/-- A timer that has fired, or is shown: its time and its id. -/
abbrev Fd := Int × Int
def fdC (p : Fd) : List Value := [.int .i64 p.1, .int .i64 p.2]
theorem fdC_len (p : Fd) : (fdC p).length = 2 := rfl
theorem fdC_one (p : Fd) : ∀ u ∈ fdC p, u.oneCell' = true := by
  intro u hu
  simp [fdC] at hu
  rcases hu with rfl | rfl <;> rfl
theorem drew_cell (w : World) (x : Addr) : w.drew.cell? x = w.cell? x := rfl
def Tm.fd (x : Tm) : Fd := (x.at_, x.id)
theorem Tryd.info54 : (Tryd.prog.info? 54).map (fun i => (i.zero, i.size, i.bytes)) = some (some (.agg #[.int .i64 0, .int .i64 0]), 2, 16) := by kernel_rfl
theorem el36 : ElemOk Tryd.prog 36 54 2 16 := .mk' Tryd.underlying36 Tryd.info54 rfl (by decide)
/-- A list of timers of the call's own. -/
def Own (w : World) (base : Nat) (v : Value) (l : List Fd) : Prop := w.ownsRow base 54 2 v l.length (cellsL fdC l)
theorem Own.kept {S : Nat → Prop} {w w' : World} {base : Nat} {v : Value} {l : List Fd} (h : Own w base v l) (K : Kept S w w') (hS : ∀ b, base ≤ b → v.ownBlock = some b → ¬ S b) : Own w' base v l := ownsRow_kept h K hS
theorem Own.same {w w' : World} {base : Nat} {v : Value} {l : List Fd} (h : Own w base v l) (K : Kept (fun _ => False) w w') : Own w' base v l := h.kept K (fun _ _ _ h => h)
theorem Own.base {w : World} {b0 b1 : Nat} {v : Value} {l : List Fd} (h : Own w b1 v l) (hb : b0 ≤ b1) : Own w b0 v l := ownsRow_base h hb
theorem Own.nil (w : World) (base : Nat) : Own w base (.slice none 0 0) [] := ⟨rfl, .inl ⟨rfl, rfl⟩⟩
theorem Own.sl {w : World} {base : Nat} {v : Value} {l : List Fd} (h : Own w base v l) : ∃ p c, v = .slice p l.length c := by
  rcases h.2 with ⟨q, h0⟩ | ⟨g, cap, cur, q, -⟩
  · exact ⟨none, 0, by rw [q, h0]⟩
  · exact ⟨_, cap, q⟩
theorem Own.rows {w : World} {base : Nat} {v : Value} {l : List Fd} (h : Own w base v l) : Rows fdC 2 w v l := Rows.of_own fdC_len h
variable {w w' : World} {base wb ab sb cap mb : Nat} {kd kd' : Nat → Nat} {fr now seq : Int} {a a' : AA} {ts : List Pt}
def ListPost (w : World) (l : List Fd) (e : Ending) (w' : World) : Prop := ∃ v, e = .returned v ∧ Own w' w.heap.size v l ∧ Kept (fun _ => False) w w'
set_option maxRecDepth 100000 in
set_option maxHeartbeats 4000000 in
theorem list_m (h : WMem w base wb ab sb cap mb kd fr now seq a ts ts) (hts : ts.length ≤ 4096) (hsrt : (ts.map Pt.x).Pairwise Tm.lt) (hnd : (ts.map fun t => t.x.h).Nodup) (hh : ∀ t ∈ ts, 0 ≤ t.x.h ∧ t.x.h ≤ 8796093026303) :
    Calls Tryd.prog 24 #[.pointer (some ⟨wb, 0, none⟩)] w (ListPost w (ts.map fun t => t.x.fd)) := by
  have HV := Lib.hid (valid_c h)
  have HS := Lib.hid (sorted_c h hts hsrt hnd hh)
  have HTM : Hid (∀ t ∈ ts, ∃ i, TmIn w t i) := Lib.hid fun t ht => ⟨_, (h.tm ht).2⟩
  clear h hsrt hnd hh
  go_enter Tryd.func24, Tryd.ntmps24
  go_wp2_with (go_at_call 39; refine HV.out.mono ?_; rintro e w' ⟨rfl, hww⟩; obtain rfl := hww.symm)
  refine HS.out.mono ?_
  rintro e w2 ⟨v, rfl, hptr, K2, hfresh⟩
  obtain ⟨p, c, rfl⟩ := hptr.len
  have HP := Lib.hid hptr
  have HK2 := Lib.hid K2
  have HFR := Lib.hid hfresh
  clear hptr K2 hfresh HS HV
  go_wp2_with fail
  go_loopw [3, 12] (fun s3 s12 wr => ∃ (k : Nat) (v : Value), k ≤ ts.length ∧ s12 = .int .i64 k ∧ s3 = v ∧ Own wr w2.heap.size v ((ts.take k).map fun t => t.x.fd) ∧ Kept (fun _ => False) w2 wr) (fun _ s12 _ => ts.length - (intOf s12).toNat)
  case atStart => exact ⟨0, _, Nat.zero_le _, rfl, rfl, by rw [List.take_zero]; exact Own.nil _ _, Kept.refl _ _⟩
  case round =>
    obtain ⟨k, v, hk, rfl, rfl, ho, K⟩ := hrel
    have HO := Lib.hid ho
    have HK := Lib.hid K
    obtain ⟨vp, vc, rfl⟩ := ho.sl
    by_cases hlt : k < ts.length
    · obtain ⟨t, ht⟩ : ∃ t, ts[k]? = some t := ⟨_, List.getElem?_eq_getElem hlt⟩
      obtain ⟨g, c', hv, hcell, hg⟩ := HP.out.get k t ht
      injection hv with hv1 hv2 hv3
      subst hv1
      obtain ⟨i, sl, T, -⟩ := HTM.out t (List.mem_of_getElem? ht)
      have KK := HK2.out.trans K (fun _ _ h => h)
      have T1 := T.kept KK (fun h => h)
      have hcell' : wr.cell? ⟨g, k, none⟩ = some (.pointer (some ⟨t.b, 0, none⟩)) := (K.cell (a := ⟨g, k, none⟩) hg (fun h => h)).trans hcell
      have t0 : wr.cell? ⟨t.b, 0, none⟩ = some (.int .i64 t.x.at_) := T1.at_
      have t1 : wr.cell? ⟨t.b, 1, none⟩ = some (.int .i64 t.x.id) := T1.id
      have tl : t.b < wr.heap.size := T1.lt
      have hgl : g < wr.heap.size := Nat.lt_of_lt_of_le hg K.size
      have j1 : (0 : Int) ≤ (k : Int) := by omega
      have j2 : (k : Int) < (ts.length : Int) := by omega
      have htk : (ts.take (k + 1)).map (fun t => t.x.fd) = (ts.take k).map (fun t => t.x.fd) ++ [t.x.fd] := by rw [List.take_add_one, ht]; simp
      have HTK := Lib.hid htk
      have hlk : ((ts.take k).map fun t => t.x.fd).length = k := by rw [List.length_map, List.length_take]; omega
      have HLK := Lib.hid hlk
      rw [hlk] at HO
      have HSZ : Hid (w2.heap.size ≤ wr.heap.size) := Lib.hid K.size
      have HOD : Hid (Own wr w2.heap.size (.slice vp k vc) ((ts.take k).map fun t => t.x.fd)) := Lib.hid HO.out
      unfold Own at HOD
      rw [hlk] at HOD
      have htw : t.b < w2.heap.size := Nat.lt_of_lt_of_le T.lt HK2.out.size
      have HKL : Hid (k ≤ 1000000) := Lib.hid (by omega)
      clear ho K hcell T T1 KK ht hv2 hv3 htk hlk
      have HS0 : Hid (∀ W', Kept (fun _ => False) wr W' → (W'.cell? ⟨t.b, 0, none⟩ = some (.int .i64 t.x.at_) ∧ W'.cell? ⟨t.b, 1, none⟩ = some (.int .i64 t.x.id) ∧ t.b < W'.heap.size) ∧ W'.ownsRow w2.heap.size 54 2 (.slice vp k vc) k (cellsL fdC ((ts.take k).map fun t => t.x.fd)) ∧ w2.heap.size ≤ W'.heap.size) := Lib.hid fun W' K' => ⟨⟨(K'.cell (a := ⟨t.b, 0, none⟩) tl (fun h => h)).trans t0, (K'.cell (a := ⟨t.b, 1, none⟩) tl (fun h => h)).trans t1, Nat.lt_of_lt_of_le tl K'.size⟩, ownsRow_kept HOD.out K' (fun _ _ _ h => h), Nat.le_trans HSZ.out K'.size⟩
      have HS1 : Hid (∀ W' w5, Kept (fun _ => False) wr W' → Kept (fun b => (Value.slice vp k vc).ownBlock = some b) W' w5 → (w5.cell? ⟨t.b, 0, none⟩ = some (.int .i64 t.x.at_) ∧ w5.cell? ⟨t.b, 1, none⟩ = some (.int .i64 t.x.id) ∧ t.b < w5.heap.size) ∧ Kept (fun _ => False) w2 w5) := Lib.hid fun W' w5 k1 k2 => by
        have hn : (Value.slice vp k vc).ownBlock ≠ some t.b := fun e => by have := (ownsRow_block HOD.out e).1; omega
        have kk : Kept (fun b => (Value.slice vp k vc).ownBlock = some b) wr w5 := (k1.mono (fun _ _ h => h.elim)).trans k2 (fun _ _ h => h)
        exact ⟨⟨(kk.cell (a := ⟨t.b, 0, none⟩) tl hn).trans t0, (kk.cell (a := ⟨t.b, 1, none⟩) tl hn).trans t1, Nat.lt_of_lt_of_le tl kk.size⟩, HK.out.trans kk (fun b hb q => by have := (ownsRow_block HOD.out q).1; omega)⟩
      clear t0 t1
      go_wp2_with fail
      go_region_held3 (fun W' => W'.cell? ⟨t.b, 0, none⟩ = some (.int .i64 t.x.at_) ∧ W'.cell? ⟨t.b, 1, none⟩ = some (.int .i64 t.x.id) ∧ t.b < W'.heap.size) (first | exact HS2.out.1 | exact (HS0.out _ (by repeat (first | exact Kept.refl _ _ | refine Kept.alloc ?_ _ | refine Kept.drew ?_))).1) (first | (refine step_one rfl (.tmp 16) (.tmp 26) rfl el36 w2.heap.size _ k _ _ (fdC t.x.fd) rfl rfl (HS0.out _ (by repeat (first | exact Kept.refl _ _ | refine Kept.alloc ?_ _ | refine Kept.drew ?_))).2.1 rfl (fun j u hj => by (first | rw [World.cell?_alloc_at _ _ _ _ rfl] | rw [drew_cell, World.cell?_alloc_at _ _ _ _ rfl]); have hj2 := hj; simp only [fdC, Tm.fd] at hj2; simpa using hj2) (fdC_one _) HKL.out (by decide) (HS0.out _ (by repeat (first | exact Kept.refl _ _ | refine Kept.alloc ?_ _ | refine Kept.drew ?_))).2.2 ?_; intro g2 cg w5 hown5 K5 hor hg5; have HS2 := Lib.hid (HS1.out _ w5 (by repeat (first | exact Kept.refl _ _ | refine Kept.alloc ?_ _ | refine Kept.drew ?_)) K5); have HW5 := Lib.hid hown5; clear hown5 K5 hor hg5))
      have HK5 : Hid (Kept (fun _ => False) w2 w5) := Lib.hid HS2.out.2
      have HN : Hid (Own w5 w2.heap.size (.slice (some ⟨g2, 0, none⟩) (k + 1) cg) ((ts.take (k + 1)).map fun t => t.x.fd)) := Lib.hid (by
        unfold Own
        rw [HTK.out, List.length_append, HLK.out, cellsL_append, cellsL_one]
        exact HW5.out)
      go_wp2_with fail
      go_roundw
      case rel => exact ⟨k + 1, _, by omega, by go_num, rfl, HN.out, HK5.out⟩
      case measure => simp [intOf]; omega
    · obtain rfl : k = ts.length := by omega
      have HX : Hid (ListPost w (ts.map fun t => t.x.fd) (.returned (.slice vp ((ts.take ts.length).map fun t => t.x.fd).length vc)) wr) := Lib.hid (by
        have h1 := HO.out
        rw [List.take_length] at h1 ⊢
        exact ⟨_, rfl, h1.base HK2.out.size, HK2.out.trans K (fun _ _ h => h)⟩)
      clear ho K
      go_wp2_with fail
      go_ret
      exact HX.out
theorem list_c {W : Wh} (h : IsW w base wb kd W) : Calls Tryd.prog 24 #[.pointer (some ⟨wb, 0, none⟩)] w (ListPost w (W.l.map Tm.fd)) := by
  obtain ⟨ok, ab, sb, cap, mb, ts, M, hts⟩ := h
  have hlen : ts.length ≤ 4096 := by have := ok.short; rw [← hts, List.length_map] at this; exact this
  have hnd : (ts.map fun u => u.x.h).Nodup := by have := ok.inj; rw [← hts, List.map_map] at this; exact this
  have := list_m M hlen (by rw [hts]; exact ok.sorted) hnd (fun t ht => by have := ok.hlo (x := t.x) (by rw [← hts]; exact List.mem_map.2 ⟨t, ht, rfl⟩); omega)
  rw [← hts, List.map_map]
  exact this
end Go.Proofs.YtjlcchjcppkbjaaDoor
