/- WhAv: texts for the statements of this seat: contracts of functions, walks, plain laws. Conditions: none. -/
import Derived.Test.YtjlcchjcppkbjaaDoorWhCn
import Derived.Test.YtjlcchjcppkbjaaDoorWhEn
set_option linter.all false
/- The states of Advance. -/
namespace Go.Proofs.YtjlcchjcppkbjaaDoor
open Go.RowKit
variable {w wr w' w5 : World} {base wb ab sb cap mb : Nat} {kd : Nat → Nat} {W : Wh} {lim fr : Int} {fired : List Tm} {ts ts2 d : List Pt} {v v' vl : Value} {t : Pt} {k : Nat}
/-- At the head of the great loop: fired have fired, ts are left. -/
structure Adv (w : World) (base wb ab sb cap mb : Nat) (kd : Nat → Nat) (W : Wh) (lim fr : Int) (fired : List Tm) (ts : List Pt) (v : Value) (wr : World) : Prop where
  mem : ∃ kd', WMem wr base wb ab sb cap mb kd' fr W.now W.seq (freeAll W.a fired) ts ts ∧ (∀ b, b < w.heap.size → kd' b = kd b) ∧ ∀ b, v.ownBlock = some b → kd' b = 0
  spl : W.l = fired ++ ts.map Pt.x
  le : ∀ x ∈ fired, x.at_ ≤ lim
  fr1 : fr ≤ lim + 1
  fr0 : W.now + 1 ≤ fr
  out : Own wr w.heap.size v (fired.map Tm.fd)
  K : Kept (fun b => kd b ≠ 0) w wr
/-- In the inner loop: the first k of d are out. -/
structure AdvI (w : World) (base wb ab sb cap mb : Nat) (kd : Nat → Nat) (W : Wh) (lim fr : Int) (fired : List Tm) (ts2 d : List Pt) (vl v : Value) (k : Nat) (wr : World) : Prop where
  mem : ∃ kd', WMem wr base wb ab sb cap mb kd' fr W.now W.seq (freeAll W.a (fired ++ (d.take k).map Pt.x)) ts2 (d.drop k ++ ts2) ∧ (∀ b, b < w.heap.size → kd' b = kd b) ∧ (∀ b, v.ownBlock = some b → kd' b = 0) ∧ (∀ b, vl.ownBlock = some b → 5 ≤ kd' b ∧ kd' b < 400) ∧ ∀ t ∈ d, kd' t.b = 400 ∧ ∃ lv sl, TmAt wr t lv sl
  row : Ptrs wr vl d
  spl : W.l = fired ++ (d ++ ts2).map Pt.x
  le : ∀ x ∈ fired, x.at_ ≤ lim
  out : Own wr w.heap.size v ((fired ++ (d.take k).map Pt.x).map Tm.fd)
  K : Kept (fun b => kd b ≠ 0) w wr
theorem nodup_h {W : Wh} (ok : WOk W) {l : List Tm} {ts : List Pt} (h : W.l = l ++ ts.map Pt.x) : (ts.map fun t => t.x.h).Nodup := by
  have := ok.inj
  rw [h, List.map_append, List.nodup_append, List.map_map] at this
  exact this.2.1
theorem AdvI.rem (ok : WOk W) (h : AdvI w base wb ab sb cap mb kd W lim fr fired ts2 d vl v k wr) (ht : d[k]? = some t) (ho : Own w5 w.heap.size v' ((fired ++ (d.take (k + 1)).map Pt.x).map Tm.fd)) (K5 : Kept (fun b => v.ownBlock = some b) wr w5) (hor : ∀ b, v'.ownBlock = some b → v.ownBlock = some b ∨ wr.heap.size ≤ b) :
    Calls Tryd.prog 47 #[.pointer (some ⟨wb, 0, none⟩), .pointer (some ⟨t.b, 0, none⟩)] w5 fun e w' => e = .returned (.tuple #[]) ∧ AdvI w base wb ab sb cap mb kd W lim fr fired ts2 d vl v' (k + 1) w' := by
  obtain ⟨⟨kd', M, h1, h2, h3, h4⟩, row, spl, le, out, K⟩ := h
  have hkl := (List.getElem?_eq_some_iff.1 ht).1
  have hdrop : d.drop k = t :: d.drop (k + 1) := by
    rw [List.drop_eq_getElem_cons hkl, (List.getElem?_eq_some_iff.1 ht).2]
  have htake : (d.take (k + 1)).map Pt.x = (d.take k).map Pt.x ++ [t.x] := by rw [List.take_add_one, ht]; simp
  have hv0 : ∀ b, kd' b ≠ 0 → v.ownBlock ≠ some b := fun b hb e => hb (h2 b e)
  have M5 := M.kept K5 (fun b hb e => hv0 b hb e)
  rw [hdrop, List.cons_append] at M5
  have hndall : ((t :: (d.drop (k + 1) ++ ts2)).map fun u => u.x.h).Nodup := by
    have hx := nodup_h ok spl
    have : (d ++ ts2) = d.take k ++ (t :: (d.drop (k + 1) ++ ts2)) := by
      rw [← List.cons_append, ← hdrop, ← List.append_assoc, List.take_append_drop]
    rw [this, List.map_append, List.nodup_append] at hx
    exact hx.2.1
  have htd := List.mem_of_getElem? ht
  obtain ⟨hk4, lv, sl, T⟩ := h4 t htd
  have hwl : t.x ∈ W.l := by rw [spl]; exact List.mem_append_right _ (List.mem_map.2 ⟨t, List.mem_append_left _ htd, rfl⟩)
  have hh := ok.hlo hwl
  have hnt : v.ownBlock ≠ some t.b := hv0 t.b (by omega)
  have hnd2 := hndall
  rw [List.map_cons, List.nodup_cons] at hnd2
  refine (remove_c M5 (t := t) (by simp) hndall ((K5.cell (a := ⟨t.b, 2, none⟩) T.lt hnt).trans T.h) (Nat.lt_of_lt_of_le T.lt K5.size) (by omega) (er := ((freeAll W.a (fired ++ (d.take k).map Pt.x)).free t.x.h).2) rfl (tsM' := d.drop (k + 1) ++ ts2) (by simp) (fun r => ?_) hk4).mono ?_
  · rw [gm_cons]
    by_cases e : r = t.x.h
    · subst e
      rw [if_pos rfl]
      exact gm_none.2 fun u hu e => hnd2.1 (List.mem_map.2 ⟨u, hu, e⟩)
    · rw [if_neg e, if_neg (fun q => e q.symm)]
  · rintro e w' ⟨rfl, M', K'⟩
    have k2 := M.kab
    have k3 := M.ksb
    have k4 := M.kmb
    have hK' : ∀ b, (b = ab ∨ b = sb ∨ b = mb) → kd' b = 2 ∨ kd' b = 3 ∨ kd' b = 4 := fun b q => by rcases q with q | q | q <;> (rw [q]; omega)
    have e1 : freeAll W.a (fired ++ (d.take (k + 1)).map Pt.x) = ((freeAll W.a (fired ++ (d.take k).map Pt.x)).free t.x.h).1 := by
      rw [htake, ← List.append_assoc, freeAll_append]; rfl
    have hv5 : ∀ b, v'.ownBlock = some b → kd' b = 0 := fun b e => by
      rcases hor b e with q | q
      · exact h2 b q
      · by_cases z : kd' b = 0
        · exact z
        · have := (M.lo b z).2; omega
    refine ⟨rfl, ⟨kd', by rw [e1]; exact M', h1, hv5, h3, fun u hu => ?_⟩, ?_, spl, le, ?_, ?_⟩
    · obtain ⟨a1, lv, sl, a2⟩ := h4 u hu
      exact ⟨a1, lv, sl, (a2.kept K5 (hv0 u.b (by omega))).kept K' (fun q => by have := hK' _ q; omega)⟩
    · exact (row.kept K5 (fun b e q => by have := h3 b e; have := h2 b q; omega)).kept K' (fun b e q => by have := hK' _ q; have := h3 b e; omega)
    · exact ho.kept K' (fun b hb e q => by have := hK' _ q; have := hv5 b e; omega)
    · refine (K.trans K5 (fun b hb e => ?_)).trans K' (fun b hb q => ?_)
      · have := (ownsRow_block out e).1; omega
      · have := hK' b q; rw [h1 b hb] at this; omega
/-- The next second has been written. -/
theorem Adv.enter (h : Adv w base wb ab sb cap mb kd W lim fr fired ts v wr) {kd' : Nat → Nat} (M : WMem wr base wb ab sb cap mb kd' fr W.now W.seq (freeAll W.a fired) ts ts) (h1 : ∀ b, b < w.heap.size → kd' b = kd b) (h2 : ∀ b, v.ownBlock = some b → kd' b = 0) {at_ : Int} (hat : at_ ≤ lim + 1) (hfr : fr ≤ at_) (P : EnterPost wr wb base kd' at_ ts w') : Adv w base wb ab sb cap mb kd W lim at_ fired ts v w' := by
  obtain ⟨⟨V', Q', kd2, C2, M2, h3⟩, low, K2⟩ := P
  have hf0 := h.fr0
  refine ⟨⟨kd2, M.lists ⟨V', Q', C2, M2⟩ h3 low K2 (fun b q => by omega), fun b hb => (h3 b (Nat.lt_of_lt_of_le hb h.K.size)).trans (h1 b hb), fun b e => ?_⟩, h.spl, h.le, hat, by omega, ?_, ?_⟩
  · rw [h3 b (ownsRow_block h.out e).2]; exact h2 b e
  · exact h.out.kept K2 (fun b hb e q => by have := h2 b e; omega)
  · exact h.K.trans K2 (fun b hb q => by rw [← h1 b hb]; omega)
end Go.Proofs.YtjlcchjcppkbjaaDoor
/- The states of Advance: a list is taken out and sorted; its timers fire. -/
namespace Go.Proofs.YtjlcchjcppkbjaaDoor
open Go.RowKit
variable {w wr w' w1 w2 w5 : World} {base wb ab sb cap mb : Nat} {kd kd' : Nat → Nat} {W : Wh} {lim fr at_ : Int} {fired : List Tm} {ts ts2 d : List Pt} {v v' vl : Value} {t : Pt} {k s : Nat} {V : Nat → Value} {Q : Nat → List Pt}
def upto (x : Int) (ts : List Pt) : List Pt := ts.takeWhile fun u => decide (u.x.at_ ≤ x)
def past (x : Int) (ts : List Pt) : List Pt := ts.dropWhile fun u => decide (u.x.at_ ≤ x)
theorem upto_past (x : Int) (ts : List Pt) : upto x ts ++ past x ts = ts := List.takeWhile_append_dropWhile
theorem upto_x (x : Int) (ts : List Pt) : (upto x ts).map Pt.x = due x (ts.map Pt.x) := by unfold upto due; rw [List.takeWhile_map]; rfl
theorem past_x (x : Int) (ts : List Pt) : (past x ts).map Pt.x = rest x (ts.map Pt.x) := by unfold past rest; rw [List.dropWhile_map]; rfl
theorem mem_upto {x : Int} {ts : List Pt} (hs : (ts.map Pt.x).Pairwise Tm.lt) (hj : ∀ t ∈ ts, ∀ u ∈ ts, t.x = u.x → t = u) {u : Pt} : u ∈ upto x ts ↔ u ∈ ts ∧ u.x.at_ ≤ x := by
  constructor
  · intro h
    have h2 := mem_due (show u.x ∈ due x (ts.map Pt.x) by rw [← upto_x]; exact List.mem_map.2 ⟨u, h, rfl⟩)
    exact ⟨(List.takeWhile_sublist _).subset h, h2.2⟩
  · rintro ⟨h1, h2⟩
    have h3 := due_mem hs (List.mem_map.2 ⟨u, h1, rfl⟩) h2
    rw [← upto_x] at h3
    obtain ⟨u2, h4, h5⟩ := List.mem_map.1 h3
    rw [← hj u2 ((List.takeWhile_sublist _).subset h4) u h1 h5]; exact h4
theorem mem_past {x : Int} {ts : List Pt} (hs : (ts.map Pt.x).Pairwise Tm.lt) {u : Pt} (h : u ∈ past x ts) : u ∈ ts ∧ x < u.x.at_ := by
  have h2 := mem_rest hs (show u.x ∈ rest x (ts.map Pt.x) by rw [← past_x]; exact List.mem_map.2 ⟨u, h, rfl⟩)
  exact ⟨(List.dropWhile_sublist _).subset h, h2.2⟩
theorem x_inj {l : List Pt} (hn : (l.map fun t => t.x.h).Nodup) : ∀ t ∈ l, ∀ u ∈ l, t.x = u.x → t = u := fun t ht u hu e => handle_inj hn ht hu (by rw [e])
theorem sub_sorted (ok : WOk W) (spl : W.l = fired ++ ts.map Pt.x) : (ts.map Pt.x).Pairwise Tm.lt := by
  have := ok.sorted
  rw [spl, List.pairwise_append] at this
  exact this.2.1
/-- The sorted first list is the beginning of what is left. -/
theorem first_is (ok : WOk W) (spl : W.l = fired ++ ts.map Pt.x) (C : Core wr wb base V Q kd' fr) (P : Placed fr ts Q) (FO : FirstOk fr ts Q 0 s at_) (hp : d.Perm (Q s)) (hd : d.Pairwise fun x y => ¬ y.x.lt x.x) : d = upto at_ ts := by
  have hs := FO.hs
  have e : plc 0 s = s := by unfold plc; simp
  have hne := FO.ne
  have hle := FO.least
  have hz := FO.zero rfl
  rw [e] at hne hle hz
  have hsrt := sub_sorted ok spl
  have hndh := nodup_h ok spl
  have hmem : ∀ u, u ∈ Q s ↔ u ∈ upto at_ ts := fun u => by
    rw [mem_upto hsrt (x_inj hndh)]
    constructor
    · intro hu
      exact ⟨(P.at (by omega) hu).1, by rw [hz u hu]; exact Int.le_refl _⟩
    · rintro ⟨h1, h2⟩
      by_cases hu : u ∈ Q s
      · exact hu
      · obtain ⟨t0, ht0⟩ := List.exists_mem_of_ne_nil _ hne
        have := hle t0 ht0 u h1 hu
        rw [hz t0 ht0] at this
        omega
  have hsub : (upto at_ ts).Sublist ts := List.takeWhile_sublist _
  have hn1 : (Q s).Nodup := List.Pairwise.of_map Pt.b (fun a b h e => h (by rw [e])) (C.R.nd s (by omega))
  have hn2 : ts.Nodup := List.Pairwise.of_map (fun t : Pt => t.x.h) (fun a b h e => h (by rw [e])) hndh
  have hpp : (Q s).Perm (upto at_ ts) := (List.perm_ext_iff_of_nodup hn1 (hn2.sublist hsub)).2 hmem
  refine sort_unique ?_ hd (hp.trans hpp)
  have := hsrt.sublist (hsub.map Pt.x)
  rw [List.pairwise_map] at this
  exact this
theorem Placed.past (ok : WOk W) (spl : W.l = fired ++ ts.map Pt.x) (P : Placed fr ts Q) (FO : FirstOk fr ts Q 0 s at_) : Placed fr (past at_ ts) (upd Q s []) := by
  have hs := FO.hs
  have e : plc 0 s = s := by unfold plc; simp
  have hz := FO.zero rfl
  have hne := FO.ne
  have hle := FO.least
  rw [e] at hne hle hz
  have hsrt := sub_sorted ok spl
  have hsub : ∀ u ∈ Go.Proofs.YtjlcchjcppkbjaaDoor.past at_ ts, u ∈ ts := fun u hu => (mem_past hsrt hu).1
  have hin : ∀ u ∈ ts, at_ < u.x.at_ → u ∈ Go.Proofs.YtjlcchjcppkbjaaDoor.past at_ ts := fun u hu hlt => by
    have h1 := upto_past at_ ts
    rw [← h1] at hu
    rcases List.mem_append.1 hu with q | q
    · have h2 := mem_due (show u.x ∈ due at_ (ts.map Pt.x) by rw [← upto_x]; exact List.mem_map.2 ⟨u, q, rfl⟩)
      omega
    · exact q
  exact {
    inj := fun u hu v hv e => P.inj u (hsub u hu) v (hsub v hv) e
    sub := fun i hi u hu => by
      by_cases e : i = s
      · subst e; rw [upd_at] at hu; simp at hu
      · rw [upd_ne _ _ e] at hu
        obtain ⟨a1, a2⟩ := P.at hi hu
        refine ⟨hin u a1 ?_, by simp, .inl a2⟩
        obtain ⟨t0, ht0⟩ := List.exists_mem_of_ne_nil _ hne
        have hnu : u ∉ Q s := fun q => e (by rw [a2]; exact (P.at (by omega) q).2.symm)
        have := hle t0 ht0 u a1 hnu
        rw [hz t0 ht0] at this; exact this
    all := fun u hu => by
      have h1 := P.in_ (hsub u hu)
      refine .inr ⟨pos fr u.x.at_, pos_lt _ _, ?_⟩
      by_cases e : pos fr u.x.at_ = s
      · rw [e] at h1
        have h2 := hz u h1
        have h3 := (mem_past hsrt hu).2
        omega
      · rw [upd_ne _ _ e]; exact h1
    hnd := fun u hu => by simp at hu
    nd := by simp
    rng := fun u hu => P.rng u (hsub u hu) }
theorem AdvI.start (ok : WOk W) (h : Adv w base wb ab sb cap mb kd W lim fr fired ts v wr) (M : WMem wr base wb ab sb cap mb kd' fr W.now W.seq (freeAll W.a fired) ts ts) (h1 : ∀ b, b < w.heap.size → kd' b = kd b) (h2 : ∀ b, v.ownBlock = some b → kd' b = 0)
    (C : Core wr wb base V Q kd' fr) (P : Placed fr ts Q) (FO : FirstOk fr ts Q 0 s at_) (E : EmptyPost wr wb base V Q kd' fr s w1) (hptr : Ptrs w2 (V s) (upto at_ ts)) (K2 : Kept (fun b => (V s).ownBlock = some b) w1 w2) :
    AdvI w base wb ab sb cap mb kd W lim fr fired (past at_ ts) (upto at_ ts) (V s) v 0 w2 := by
  have hs := FO.hs
  have hi : s < 257 := by omega
  have kw := C.R.kw
  have KK : Kept (fun b => b = wb ∨ (V s).ownBlock = some b) wr w2 := (E.K.mono (fun _ _ q => .inl q)).trans K2 (fun _ _ q => .inr q)
  have hkk : ∀ b, (b = wb ∨ (V s).ownBlock = some b) → kd' b = 1 ∨ kd' b = 5 + s := fun b q => by
    rcases q with q | q
    · left; rw [q]; exact kw
    · right; exact C.R.kV s hi b q
  have hVw : (V s).ownBlock ≠ some wb := fun e => by have := C.R.kV s hi wb e; omega
  have C2 : Core w2 wb base (upd V s (.slice none 0 0)) (upd Q s []) kd' fr := E.core.kept K2 hVw (fun i hi2 b hb q => by
      have q1 := E.core.R.kV i hi2 b hb
      have q2 := C.R.kV s hi b q
      have : i = s := by omega
      subst this
      rw [upd_at] at hb; simp [Value.ownBlock] at hb) (fun i hi2 u hu q => by have q1 := E.core.R.kT i hi2 u hu; have q2 := C.R.kV s hi _ q; omega)
  have hM2 := M.lists (kd' := kd') (fr' := fr) (tsP' := past at_ ts) ⟨_, _, C2, P.past ok h.spl FO⟩ (fun _ _ => rfl) (fun o ho _ => (K2.cell (a := ⟨wb, o, none⟩) (Nat.lt_of_lt_of_le C.R.ltw E.K.size) hVw).trans (E.low o ho)) KK (fun b q z => by have := hkk b z; omega)
  refine ⟨⟨kd', ?_, h1, h2, fun b e => by have := C.R.kV s hi b e; omega, fun u hu => ?_⟩, hptr, ?_, h.le, ?_, ?_⟩
  · simp only [List.take_zero, List.map_nil, List.append_nil, List.drop_zero]
    rw [upto_past]; exact hM2
  · have hut : u ∈ ts := (List.takeWhile_sublist _).subset hu
    obtain ⟨q1, sl, T, -⟩ := M.tm hut
    exact ⟨q1, _, sl, T.kept KK (fun q => by have := hkk _ q; omega)⟩
  · rw [upto_past]; exact h.spl
  · simp only [List.take_zero, List.map_nil, List.append_nil]
    exact h.out.kept KK (fun b hb e q => by have := hkk _ q; have := h2 b e; omega)
  · exact h.K.trans KK (fun b hb q => by rw [← h1 b hb]; have := hkk _ q; omega)
theorem AdvI.done (h : AdvI w base wb ab sb cap mb kd W lim fr fired ts2 d vl v d.length wr) (hd : ∀ t ∈ d, t.x.at_ ≤ lim) (h1 : fr ≤ lim + 1) (h0 : W.now + 1 ≤ fr) : Adv w base wb ab sb cap mb kd W lim fr (fired ++ d.map Pt.x) ts2 v wr := by
  obtain ⟨⟨kd', M, a1, a2, -, -⟩, -, spl, le, out, K⟩ := h
  rw [List.take_length] at M out
  rw [List.drop_length, List.nil_append] at M
  refine ⟨⟨kd', M, a1, a2⟩, by rw [spl, List.map_append, List.append_assoc], fun x hx => ?_, h1, h0, out, K⟩
  rcases List.mem_append.1 hx with q | q
  · exact le x q
  · obtain ⟨t, ht, rfl⟩ := List.mem_map.1 q
    exact hd t ht
end Go.Proofs.YtjlcchjcppkbjaaDoor
/- Advance. -/
namespace Go.Proofs.YtjlcchjcppkbjaaDoor
open Go.RowKit
variable {w w' : World} {base wb ab sb cap mb : Nat} {kd kd' : Nat → Nat} {fr now seq : Int} {a a' : AA} {ts : List Pt}
theorem adv_arg (h : WMem w base wb ab sb cap mb kd fr now seq a ts ts) (lim : Int) (h0 : lim < 0 ∨ 4611686018427387904 < lim) :
    Calls Tryd.prog 17 #[.pointer (some ⟨wb, 0, none⟩), .int .i64 lim] w fun e w' => e = .returned (.tuple #[.slice none 0 0, .int .i64 2]) ∧ w' = w := by
  have HV := Lib.hid (valid_c h)
  clear h
  rcases h0 with h0 | h0
  · go_enter Tryd.func17, Tryd.ntmps17
    go_wp2_with (go_at_call 39; refine HV.out.mono ?_; rintro e w' ⟨rfl, rfl⟩)
    go_ret2
    exact ⟨rfl, rfl⟩
  · have h1 : ¬ lim < 0 := by omega
    go_enter Tryd.func17, Tryd.ntmps17
    go_wp2_with (go_at_call 39; refine HV.out.mono ?_; rintro e w' ⟨rfl, rfl⟩)
    go_ret2
    exact ⟨rfl, rfl⟩
theorem adv_order (h : WMem w base wb ab sb cap mb kd fr now seq a ts ts) (lim : Int) (h0 : 0 ≤ lim) (h1 : lim ≤ 4611686018427387904) (h2 : lim < now) :
    Calls Tryd.prog 17 #[.pointer (some ⟨wb, 0, none⟩), .int .i64 lim] w fun e w' => e = .returned (.tuple #[.slice none 0 0, .int .i64 8]) ∧ w' = w := by
  have HV := Lib.hid (valid_c h)
  have c0 := h.c0
  have lw := h.ltw
  clear h
  go_enter Tryd.func17, Tryd.ntmps17
  go_wp2_with (go_at_call 39; refine HV.out.mono ?_; rintro e w' ⟨rfl, rfl⟩)
  go_ret2
  exact ⟨rfl, rfl⟩
/-- What Advance leaves. -/
def AdvPost (w : World) (base wb : Nat) (kd : Nat → Nat) (W' : Wh) (l : List Tm) (e : Ending) (w' : World) : Prop :=
  ∃ v, e = .returned (.tuple #[v, .int .i64 0]) ∧ Own w' w.heap.size v (l.map Tm.fd) ∧ ∃ kd', IsW w' base wb kd' W' ∧ (∀ b, b < w.heap.size → kd' b = kd b) ∧ (∀ b, v.ownBlock = some b → kd' b = 0) ∧ Kept (fun b => kd b ≠ 0) w w'
/-- The end: the time is written, and the next second where it has not come yet. -/
theorem adv_end {W : Wh} {lim fr : Int} {fired : List Tm} {v : Value} {wr : World} (ok : WOk W) (h : Adv w base wb ab sb cap mb kd W lim fr fired ts v wr) (h0 : W.now ≤ lim) (h1 : lim ≤ NEVER) (hall : ∀ t ∈ ts, lim < t.x.at_) {w3 : World} {kd3 : Nat → Nat}
    (M : WMem w3 base wb ab sb cap mb kd3 (lim + 1) lim W.seq (freeAll W.a fired) ts ts) (hk : ∀ b, b < w.heap.size → kd3 b = kd b) (hv : ∀ b, v.ownBlock = some b → kd3 b = 0) (ho : Own w3 w.heap.size v (fired.map Tm.fd)) (K : Kept (fun b => kd b ≠ 0) w w3) :
    AdvPost w base wb kd { W with now := lim, a := freeAll W.a (due lim W.l), l := rest lim W.l } (due lim W.l) (.returned (.tuple #[v, .int .i64 0])) w3 := by
  have hd : due lim W.l = fired ∧ rest lim W.l = ts.map Pt.x := by
    have hs := ok.sorted
    rw [due_filter hs, rest_filter hs, h.spl, List.filter_append, List.filter_append]
    constructor
    · rw [List.filter_eq_self.2 (fun x hx => by simpa using h.le x hx), List.filter_eq_nil_iff.2, List.append_nil]
      intro x hx
      obtain ⟨t, ht, rfl⟩ := List.mem_map.1 hx
      have := hall t ht
      simp; omega
    · rw [List.filter_eq_nil_iff.2, List.nil_append, List.filter_eq_self.2]
      · intro x hx
        obtain ⟨t, ht, rfl⟩ := List.mem_map.1 hx
        simpa using hall t ht
      · intro x hx
        have := h.le x hx
        simp; omega
  have hok := ok.advance h0 h1
  rw [hd.1, hd.2] at hok ⊢
  exact ⟨v, rfl, ho, kd3, ⟨hok, ab, sb, cap, mb, ts, M, rfl⟩, hk, hv, K⟩
theorem adv_exit {W : Wh} {lim fr : Int} {fired : List Tm} {v : Value} {w2 : World} (ok : WOk W) (h : Adv w base wb ab sb cap mb kd W lim fr fired ts v w2) (h0 : W.now ≤ lim) (h1 : lim ≤ NEVER) (hall : ∀ t ∈ ts, lim < t.x.at_) (hl : ts.length ≤ 4096) :
    (fr ≤ lim → Calls Tryd.prog 43 #[.pointer (some ⟨wb, 0, none⟩), .int .i64 (lim + 1)] (w2.setCell ⟨wb, 0, none⟩ (.int .i64 lim)) fun e w' => e = .returned (.tuple #[]) ∧ AdvPost w base wb kd { W with now := lim, a := freeAll W.a (due lim W.l), l := rest lim W.l } (due lim W.l) (.returned (.tuple #[v, .int .i64 0])) w') ∧
    (lim < fr → AdvPost w base wb kd { W with now := lim, a := freeAll W.a (due lim W.l), l := rest lim W.l } (due lim W.l) (.returned (.tuple #[v, .int .i64 0])) (w2.setCell ⟨wb, 0, none⟩ (.int .i64 lim))) ∧
    (w2.setCell ⟨wb, 0, none⟩ (.int .i64 lim)).cell? ⟨wb, 1, none⟩ = some (.int .i64 fr) ∧ w2.cell? ⟨wb, 0, none⟩ = some (.int .i64 W.now) ∧ w2.frozen? ⟨wb, 0, none⟩ = false ∧ wb < w2.heap.size := by
  obtain ⟨kd', M, k1, k2⟩ := h.mem
  have hnow := ok.now
  have hN : NEVER = 4611686018427387904 := rfl
  have kw := M.kw
  have lw := M.ltw
  have ka := M.kab
  have ks := M.ksb
  have km := M.kmb
  obtain ⟨V, Q, C, P⟩ := M.core
  have hf0 := h.fr0
  have hf1 := h.fr1
  have KW : Kept (fun b => b = wb) w2 (w2.setCell ⟨wb, 0, none⟩ (.int .i64 lim)) := (Kept.refl (fun b => b = wb) w2).setCell _ _ (fun _ => rfl)
  have C3 : Core (w2.setCell ⟨wb, 0, none⟩ (.int .i64 lim)) wb base V Q kd' fr := ⟨C.R.setLow (by omega) _, C.U.set_off (by omega) _, fun o => by rw [World.frozen?_setCell]; exact C.fz o, (cell_set_off _ _ _ _ _ (by omega)).trans C.fr⟩
  have M3 : WMem (w2.setCell ⟨wb, 0, none⟩ (.int .i64 lim)) base wb ab sb cap mb kd' fr lim W.seq (freeAll W.a fired) ts ts := by
    obtain ⟨-, c0, c2, c3, c4, I, ⟨n, hn, hm⟩, -, -, -⟩ := M
    exact ⟨⟨V, Q, C3, P⟩, cell_set_at _ c0, (cell_set_off _ _ _ _ _ (by omega)).trans c2, (cell_set_off _ _ _ _ _ (by omega)).trans c3, (cell_set_off _ _ _ _ _ (by omega)).trans c4,
      I.kept KW (fun (e : ab = wb) => by rw [e] at ka; omega) (fun (e : sb = wb) => by rw [e] at ks; omega), ⟨n, hn, hm.kept KW (fun (e : mb = wb) => by rw [e] at km; omega)⟩, ka, ks, km⟩
  have ho : Own (w2.setCell ⟨wb, 0, none⟩ (.int .i64 lim)) w.heap.size v (fired.map Tm.fd) := h.out.kept KW (fun b hb e (q : b = wb) => by have := k2 b e; rw [q] at this; omega)
  have K3 : Kept (fun b => kd b ≠ 0) w (w2.setCell ⟨wb, 0, none⟩ (.int .i64 lim)) := h.K.trans KW (fun b hb (q : b = wb) => by rw [← k1 b hb, q]; omega)
  refine ⟨fun hle => ?_, fun hlt => ?_, (cell_set_off _ _ _ _ _ (by omega)).trans C.fr, M.c0, C.fz 0, lw⟩
  · refine (enter_c C3 P (lim + 1) (by omega) (by omega) (by omega) (fun t ht => by have := hall t ht; omega) (by omega)).mono ?_
    rintro e w' ⟨rfl, E⟩
    obtain ⟨⟨V', Q', kd2, C2, M2, h3⟩, low, K2⟩ := E
    refine ⟨rfl, adv_end ok h h0 h1 hall (M3.lists ⟨V', Q', C2, M2⟩ h3 low K2 (fun b q => by omega)) (fun b hb => (h3 b (Nat.lt_of_lt_of_le hb K3.size)).trans (k1 b hb)) (fun b e => ?_) (ho.kept K2 (fun b hb e q => by have := k2 b e; omega)) (K3.trans K2 (fun b hb q => by rw [← k1 b hb]; omega))⟩
    rw [h3 b (ownsRow_block ho e).2]; exact k2 b e
  · have e : fr = lim + 1 := by omega
    subst e
    exact adv_end ok h h0 h1 hall M3 k1 k2 ho K3
theorem Adv.same {W : Wh} {lim fr : Int} {fired : List Tm} {v : Value} {w2 w3 : World} (h : Adv w base wb ab sb cap mb kd W lim fr fired ts v w2) (K : Kept (fun _ => False) w2 w3) : Adv w base wb ab sb cap mb kd W lim fr fired ts v w3 := by
  obtain ⟨⟨kd', M, k1, k2⟩, spl, le, f1, f0, out, K0⟩ := h
  exact ⟨⟨kd', M.same K, k1, k2⟩, spl, le, f1, f0, out.same K, K0.trans K (fun _ _ h => h.elim)⟩
theorem adv_enter {W : Wh} {lim fr at_ : Int} {fired : List Tm} {v : Value} {wr : World} (h : Adv w base wb ab sb cap mb kd W lim fr fired ts v wr) (hn : 0 ≤ W.now) (h1 : lim ≤ 4611686018427387904) (ha : fr ≤ at_) (hb : at_ ≤ lim + 1) (hall : ∀ t ∈ ts, at_ ≤ t.x.at_) (hl : ts.length ≤ 4096) :
    Calls Tryd.prog 43 #[.pointer (some ⟨wb, 0, none⟩), .int .i64 at_] wr fun e w' => e = .returned (.tuple #[]) ∧ Adv w base wb ab sb cap mb kd W lim at_ fired ts v w' := by
  obtain ⟨kd', M, k1, k2⟩ := h.mem
  obtain ⟨V, Q, C, P⟩ := M.core
  have hf0 := h.fr0
  refine (enter_c C P at_ (by omega) ha (by omega) hall (by omega)).mono ?_
  rintro e w' ⟨rfl, E⟩
  exact ⟨rfl, h.enter M k1 k2 hb ha E⟩
theorem adv_sort {W : Wh} {lim fr at_ : Int} {fired : List Tm} {v : Value} {wr w3 : World} {V : Nat → Value} {Q : Nat → List Pt} {s : Nat} (ok : WOk W) (h : Adv w base wb ab sb cap mb kd W lim fr fired ts v wr) (M : WMem wr base wb ab sb cap mb kd' fr W.now W.seq (freeAll W.a fired) ts ts) (k1 : ∀ b, b < w.heap.size → kd' b = kd b) (k2 : ∀ b, v.ownBlock = some b → kd' b = 0)
    (C : Core wr wb base V Q kd' fr) (P : Placed fr ts Q) (FO : FirstOk fr ts Q 0 s at_) (hl : ts.length ≤ 4096) (E : EmptyPost wr wb base V Q kd' fr s w3) :
    Calls Tryd.prog 45 #[V s, .func (.func 46) #[] #[]] w3 fun e w' => e = .returned (.tuple #[]) ∧ AdvI w base wb ab sb cap mb kd W lim fr fired (past at_ ts) (upto at_ ts) (V s) v 0 w' := by
  have hs := FO.hs
  have hi : s < 257 := by omega
  have hVw : (V s).ownBlock ≠ some wb := fun e => by have := C.R.kV s hi wb e; have := C.R.kw; omega
  have hql := len_sub (List.Pairwise.of_map Pt.b (fun a b h e => h (by rw [e])) (C.R.nd s hi)) (fun x hx => (P.at hi hx).1)
  refine (sortP_c (Q s) (by omega) (ownsRow_kept (C.R.row s hi) E.K (fun b _ e (q : b = wb) => hVw (by rw [← q]; exact e))) (fun u hu => ?_)).mono ?_
  · have hk := (C.R.tm s hi u hu).key
    have hk4 := C.R.kT s hi u hu
    have hnw : u.b ≠ wb := fun e => by have := C.R.kw; rw [e] at hk4; omega
    exact ⟨⟨(E.K.cell (a := ⟨u.b, 0, none⟩) hk.lt hnw).trans hk.at_, (E.K.cell (a := ⟨u.b, 3, none⟩) hk.lt hnw).trans hk.seq, Nat.lt_of_lt_of_le hk.lt E.K.size⟩, fun e => by have := C.R.kV s hi _ e; omega⟩
  · rintro e w' ⟨rfl, d, hp, hd, hr, K⟩
    have hdd := first_is ok h.spl C P FO hp hd
    subst hdd
    exact ⟨rfl, AdvI.start ok h M k1 k2 C P FO E hr K⟩
end Go.Proofs.YtjlcchjcppkbjaaDoor
