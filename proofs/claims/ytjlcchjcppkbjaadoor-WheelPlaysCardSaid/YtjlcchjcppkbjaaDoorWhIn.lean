/- WhIn: texts for the statements of this seat: contracts of functions, walks, plain laws. Conditions: none. -/
import Derived.Test.YtjlcchjcppkbjaaDoorWhRemove
set_option linter.all false
/- A new wheel in memory; New. -/
namespace Go.Proofs.YtjlcchjcppkbjaaDoor
open Go.RowKit
/-- The cells of a zero wheel. -/
def zc (o : Nat) : Value := if o < 3 then .int .i64 0 else if o = 3 then .pointer none else if o = 4 then .map none else if o < 261 then .slice none 0 0 else if o < 265 then .int .u64 0 else .slice none 0 0
set_option maxRecDepth 100000 in
theorem zero83 : Tryd.zeroCells83 = ((List.range 266).map zc).toArray := by kernel_rfl
theorem zero83_get (o : Nat) (h : o < 266) : Tryd.zeroCells83[o]? = some (zc o) := by
  rw [zero83]
  simp [h]
theorem zero83_size : Tryd.zeroCells83.size = 266 := by rw [zero83]; simp
theorem fresh_mem {w : World} {base B ab sb cap mb : Nat} {fr now : Int} {seq : Int} {a : AA} (hB : B < w.heap.size) (hb : base ≤ B ∧ base ≤ ab ∧ base ≤ sb ∧ base ≤ mb) (hd : B ≠ ab ∧ B ≠ sb ∧ B ≠ mb ∧ ab ≠ sb ∧ ab ≠ mb ∧ sb ≠ mb) (fz : ∀ o, w.frozen? ⟨B, o, none⟩ = false)
    (h0 : w.cell? ⟨B, 0, none⟩ = some (.int .i64 now)) (h1 : w.cell? ⟨B, 1, none⟩ = some (.int .i64 fr)) (h2 : w.cell? ⟨B, 2, none⟩ = some (.int .i64 seq)) (h3 : w.cell? ⟨B, 3, none⟩ = some (.pointer (some ⟨ab, 0, none⟩))) (h4 : w.cell? ⟨B, 4, none⟩ = some (.map (some mb)))
    (h5 : ∀ o, 5 ≤ o → o < 266 → w.cell? ⟨B, o, none⟩ = some (zc o)) (hs : 0 ≤ seq) (I : IsA w ab sb cap a) (Mp : MapN Tryd.prog 30 readB datB w mb 0 0 (fun _ => none)) :
    ∃ kd, (∀ b, kd b ≠ 0 → b = B ∨ b = ab ∨ b = sb ∨ b = mb) ∧ WMem w base B ab sb cap mb kd fr now seq a [] [] := by
  obtain ⟨d1, d2, d3, d4, d5, d6⟩ := hd
  refine ⟨fun b => if b = B then 1 else if b = ab then 2 else if b = sb then 3 else if b = mb then 4 else 0, fun b hne => ?_, ?_⟩
  · by_cases e1 : b = B
    · exact .inl e1
    · by_cases e2 : b = ab
      · exact .inr (.inl e2)
      · by_cases e3 : b = sb
        · exact .inr (.inr (.inl e3))
        · by_cases e4 : b = mb
          · exact .inr (.inr (.inr e4))
          · simp [e1, e2, e3, e4] at hne
  · have hlo : ∀ b, (if b = B then 1 else if b = ab then 2 else if b = sb then 3 else if b = mb then 4 else 0 : Nat) ≠ 0 → base ≤ b ∧ b < w.heap.size := fun b hne => by
      have hla := I.lta
      have hls := I.lts
      have hlm := Mp.lt
      by_cases e1 : b = B
      · subst e1; exact ⟨hb.1, hB⟩
      · by_cases e2 : b = ab
        · subst e2; exact ⟨hb.2.1, hla⟩
        · by_cases e3 : b = sb
          · subst e3; exact ⟨hb.2.2.1, hls⟩
          · by_cases e4 : b = mb
            · subst e4; exact ⟨hb.2.2.2, hlm⟩
            · simp [e1, e2, e3, e4] at hne
    have hoff : ∀ i, i < 257 → zc (off i) = .slice none 0 0 := fun i hi => by
      have := off_lt hi
      unfold zc
      rw [if_neg (by omega), if_neg (by omega), if_neg (by omega)]
      split
      · rfl
      · rw [if_neg (by omega)]
    refine ⟨⟨fun _ => .slice none 0 0, fun _ => [], ⟨⟨fun i hi => ?_, fun i hi => ⟨rfl, .inl ⟨rfl, rfl⟩⟩, fun i hi t ht => by simp at ht, fun i hi b hb => by simp [Value.ownBlock] at hb, fun i hi t ht => by simp at ht, fun i hi => by simp, fun i hi j hj t ht => by simp at ht, if_pos rfl, hlo⟩, ⟨fun L hL => ⟨0, by omega, ?_, fun j hj => by simp⟩⟩, fz, h1⟩,
      ⟨fun t ht => by simp at ht, fun i hi t ht => by simp at ht, fun t ht => by simp at ht, fun t ht => by simp at ht, by simp, fun t ht => by simp at ht⟩⟩, h0, h2, h3, h4, I, ⟨0, by omega, ?_⟩, ?_, ?_, ?_⟩
    · have := off_lt hi
      rw [h5 _ this.1 this.2.1, hoff i hi]
    · rw [h5 _ (by omega) (by omega)]
      unfold zc
      rw [if_neg (by omega), if_neg (by omega), if_neg (by omega), if_neg (by omega), if_pos (by omega)]
      rfl
    · exact Mp.congr fun r _ => rfl
    · simp [d1.symm]
    · simp [d2.symm, d4.symm]
    · simp [d3.symm, d5.symm, d6.symm]

/-- A wheel of the call's own. -/
def IsW (w : World) (base wb : Nat) (kd : Nat → Nat) (W : Wh) : Prop := WOk W ∧ ∃ ab sb cap mb ts, WMem w base wb ab sb cap mb kd (W.now + 1) W.now W.seq W.a ts ts ∧ ts.map Pt.x = W.l
theorem IsW.ok {w : World} {base wb : Nat} {kd : Nat → Nat} {W : Wh} (h : IsW w base wb kd W) : WOk W := h.1
theorem IsW.lo {w : World} {base wb : Nat} {kd : Nat → Nat} {W : Wh} (h : IsW w base wb kd W) : ∀ b, kd b ≠ 0 → base ≤ b ∧ b < w.heap.size := let ⟨_, _, _, _, _, _, h, _⟩ := h; h.lo
theorem IsW.kw {w : World} {base wb : Nat} {kd : Nat → Nat} {W : Wh} (h : IsW w base wb kd W) : kd wb = 1 := let ⟨_, _, _, _, _, _, h, _⟩ := h; h.kw
theorem IsW.kept {S : Nat → Prop} {w w' : World} {base wb : Nat} {kd : Nat → Nat} {W : Wh} (h : IsW w base wb kd W) (K : Kept S w w') (hS : ∀ b, kd b ≠ 0 → ¬ S b) : IsW w' base wb kd W := by
  obtain ⟨ok, ab, sb, cap, mb, ts, M, e⟩ := h
  exact ⟨ok, ab, sb, cap, mb, ts, M.kept K hS, e⟩
theorem IsW.same {w w' : World} {base wb : Nat} {kd : Nat → Nat} {W : Wh} (h : IsW w base wb kd W) (K : Kept (fun _ => False) w w') : IsW w' base wb kd W := h.kept K (fun _ _ h => h)

def NewPost (w : World) (n : Nat) (now : Int) (e : Ending) (w' : World) : Prop := ∃ wb kd, e = .returned (.tuple #[.pointer (some ⟨wb, 0, none⟩), .int .i64 0]) ∧ IsW w' w.heap.size wb kd (Wh.new n now) ∧ Kept (fun _ => False) w w'
set_option maxRecDepth 100000 in
set_option maxHeartbeats 1000000 in
theorem wnew_c (n now : Int) (w : World) (h0 : 0 ≤ n) (h1 : n ≤ 4096) (h2 : 0 ≤ now) (h3 : now ≤ 4611686018427387904) :
    Calls Tryd.prog 14 #[.int .i64 n, .int .i64 now] w (NewPost w n.toNat now) := by
  have HN := Lib.hid (new_a n w h0 h1)
  have hmm := @run_makeMap Tryd.prog
  have HFIN : Hid (∀ w2, IsA w2 (w.heap.size + 1) w.heap.size n.toNat (AA.empty n.toNat) → Kept (fun _ => False) w w2 → NewPost w n.toNat now (.returned (.tuple #[.pointer (some ⟨w2.heap.size + 1, 0, none⟩), .int .i64 0])) ((w2.alloc (Obj.map #[] 0)).alloc
      (Obj.cells ((((Tryd.zeroCells83.setIfInBounds 0 (Value.int IntKind.i64 now)).setIfInBounds 1 (Value.int IntKind.i64 (now + 1))).setIfInBounds 3 (Value.pointer (some { block := w.heap.size + 1, off := 0 }))).setIfInBounds 4 (Value.map (some w2.heap.size))) 83))) := Lib.hid fun w2 I2 K2 => by
    have hla := I2.lta
    have hls := I2.lts
    have hz := zero83_size
    have Mp := MapN.made (β := Option Nat) w2 Tryd.prog 30 readB datB
    have hsz : w.heap.size + 1 < w2.heap.size := hla
    obtain ⟨Z, hZ⟩ : ∃ Z, ((((Tryd.zeroCells83.setIfInBounds 0 (Value.int IntKind.i64 now)).setIfInBounds 1 (Value.int IntKind.i64 (now + 1))).setIfInBounds 3 (Value.pointer (some { block := w.heap.size + 1, off := 0 }))).setIfInBounds 4 (Value.map (some w2.heap.size))) = Z := ⟨_, rfl⟩
    rw [hZ]
    have hc : ∀ o, ((w2.alloc (Obj.map #[] 0)).alloc (Obj.cells Z 83)).cell? ⟨w2.heap.size + 1, o, none⟩ = Z[o]? := fun o => by
      rw [World.cell?_alloc_at _ _ _ _ (by simp)]
    have hf : ∀ o, ((w2.alloc (Obj.map #[] 0)).alloc (Obj.cells Z 83)).frozen? ⟨w2.heap.size + 1, o, none⟩ = false := fun o => by rw [World.frozen?_alloc_at _ _ _ _ (by simp)]
    have KA : Kept (fun _ => False) w2 ((w2.alloc (Obj.map #[] 0)).alloc (Obj.cells Z 83)) := ((Kept.refl _ w2).alloc _).alloc _
    have KB : Kept (fun _ => False) (w2.alloc (Obj.map #[] 0)) ((w2.alloc (Obj.map #[] 0)).alloc (Obj.cells Z 83)) := (Kept.refl _ _).alloc _
    obtain ⟨kd, -, M⟩ := fresh_mem (w := (w2.alloc (Obj.map #[] 0)).alloc (Obj.cells Z 83)) (base := w.heap.size) (B := w2.heap.size + 1) (ab := w.heap.size + 1) (sb := w.heap.size) (cap := n.toNat) (mb := w2.heap.size) (fr := now + 1) (now := now) (seq := 0) (a := AA.empty n.toNat)
      (by simp) (by omega) (by omega) hf
      (by rw [hc, ← hZ]; simp [hz]) (by rw [hc, ← hZ]; simp [hz]) (by rw [hc, ← hZ, Array.getElem?_setIfInBounds_ne (by omega), Array.getElem?_setIfInBounds_ne (by omega), Array.getElem?_setIfInBounds_ne (by omega), Array.getElem?_setIfInBounds_ne (by omega), zero83_get 2 (by omega)]; rfl) (by rw [hc, ← hZ]; simp [hz]) (by rw [hc, ← hZ]; simp [hz])
      (fun o ho1 ho2 => by
        rw [hc, ← hZ]
        rw [Array.getElem?_setIfInBounds_ne (by omega), Array.getElem?_setIfInBounds_ne (by omega), Array.getElem?_setIfInBounds_ne (by omega), Array.getElem?_setIfInBounds_ne (by omega)]
        exact zero83_get o ho2)
      (Int.le_refl _) (I2.kept KA (fun h => h) (fun h => h)) (Mp.kept KB (fun h => h))
    exact ⟨_, kd, rfl, ⟨WOk.new (by omega) h2 h3, _, _, _, _, [], M, rfl⟩, K2.trans KA (fun _ _ h => h)⟩
  go_enter Tryd.func14, Tryd.ntmps14
  go_wp2_with (go_at_call 38; refine HN.out.mono ?_; rintro e w2 ⟨rfl, I2, K2⟩)
  go_ret2
  exact HFIN.out w2 I2 K2
end Go.Proofs.YtjlcchjcppkbjaaDoor
/- A timer that was just made comes into the map and into the lists. -/
namespace Go.Proofs.YtjlcchjcppkbjaaDoor
open Go.RowKit
/-- Where the new timer stands among those in order. -/
def insP (t : Pt) (l : List Pt) : List Pt := l.takeWhile (fun u => decide (u.x.at_ ≤ t.x.at_)) ++ t :: l.dropWhile fun u => decide (u.x.at_ ≤ t.x.at_)
theorem insP_x (t : Pt) (l : List Pt) : (insP t l).map Pt.x = ins t.x (l.map Pt.x) := by
  unfold insP ins due rest
  rw [List.map_append, List.map_cons, List.takeWhile_map, List.dropWhile_map]
  rfl
theorem insP_perm (t : Pt) (l : List Pt) : (insP t l).Perm (t :: l) := by
  unfold insP
  refine List.perm_middle.trans ?_
  rw [List.takeWhile_append_dropWhile]
theorem mem_insP {t u : Pt} {l : List Pt} : u ∈ insP t l ↔ u = t ∨ u ∈ l := by rw [(insP_perm t l).mem_iff, List.mem_cons]
theorem insP_length (t : Pt) (l : List Pt) : (insP t l).length = l.length + 1 := by rw [(insP_perm t l).length_eq]; rfl
variable {w w3 w4 : World} {base wb ab sb cap mb : Nat} {kd : Nat → Nat} {fr now seq : Int} {a : AA} {ts : List Pt} {V : Nat → Value} {Q : Nat → List Pt}
theorem Core.newKind (C : Core w wb base V Q kd fr) {B : Nat} (h0 : kd B = 0) (hb : base ≤ B) (hl : B < w.heap.size) : Core w wb base V Q (upd kd B 400) fr := by
  have hne : ∀ b, kd b ≠ 0 → b ≠ B := fun b h e => h (by rw [e]; exact h0)
  have hkw := C.R.kw
  refine ⟨{ C.R with
    kV := fun i hi b hbb => ?_
    kT := fun i hi t ht => ?_
    kw := ?_
    lo := fun b h => ?_ }, C.U, C.fz, C.fr⟩
  · have := C.R.kV i hi b hbb
    rw [upd_ne _ _ (hne b (by omega))]; exact this
  · have := C.R.kT i hi t ht
    rw [upd_ne _ _ (hne t.b (by omega))]; exact this
  · rw [upd_ne _ _ (hne wb (by omega))]; exact hkw
  · by_cases e : b = B
    · subst e; exact ⟨hb, hl⟩
    · rw [upd_ne _ _ e] at h; exact C.R.lo b h
def InsPost (w3 : World) (base wb ab sb cap mb : Nat) (kd : Nat → Nat) (fr now seq : Int) (a : AA) (ts : List Pt) (t : Pt) (n : Nat) (w5 : World) : Prop :=
  ∃ kd', WMem w5 base wb ab sb cap mb kd' fr now seq a (insP t ts) (insP t ts) ∧ MapN Tryd.prog 30 readB datB w5 mb (n + 1) (ts.length + 1) (gm (insP t ts)) ∧ (∀ b, b < w3.heap.size → b ≠ t.b → kd' b = kd b) ∧ Kept (fun b => kd b ≠ 0 ∨ b = t.b) w3 w5
theorem insert_c (h : WMem w3 base wb ab sb cap mb kd fr now seq a ts ts) {t : Pt} {lv sl : Int} (T : TmAt w3 t lv sl) (hB : base ≤ t.b) (hk0 : kd t.b = 0) (hf0 : 0 ≤ fr) (hf1 : fr ≤ 4611686018427387905) (hx0 : fr ≤ t.x.at_) (hx1 : t.x.at_ ≤ 4611686018427387904)
    (hts : ts.length ≤ 100000) (hnew : ∀ u ∈ ts, u.x.h ≠ t.x.h) (hnd : (ts.map fun u => u.x.h).Nodup) {n : Nat} (hn : ((n + 1 : Nat) : Int) ≤ seq + 4096) (m4 : MapN Tryd.prog 30 readB datB w4 mb (n + 1) (ts.length + 1) (fun s => if s = t.x.h then some (some t.b) else gm ts s)) (K4 : Kept (fun i => i = mb) w3 w4) :
    Calls Tryd.prog 41 #[.pointer (some ⟨wb, 0, none⟩), .pointer (some ⟨t.b, 0, none⟩)] w4 fun e w5 => e = .returned (.tuple #[]) ∧ InsPost w3 base wb ab sb cap mb kd fr now seq a ts t n w5 := by
  have k2 := h.kab
  have k3 := h.ksb
  have k4 := h.kmb
  have kw := h.kw
  have lw := h.ltw
  have hne : ∀ b, kd b ≠ 0 → b ≠ t.b := fun b q e => q (by rw [e]; exact hk0)
  obtain ⟨⟨V, Q, C, M⟩, c0, c2, c3, c4, I, -, -, -, -⟩ := h
  have hmb : ∀ b, b = mb → kd b = 4 := fun b e => by rw [e]; exact k4
  have C4 : Core w4 wb base V Q kd fr := C.kept K4 (fun e => by have := hmb _ e; omega) (fun i hi b hb e => by have := hmb _ e; have := C.R.kV i hi b hb; omega) (fun i hi u hu e => by have := hmb _ e; have := C.R.kT i hi u hu; omega)
  have hl4 : t.b < w4.heap.size := Nat.lt_of_lt_of_le T.lt K4.size
  have C4' := C4.newKind hk0 hB hl4
  have T4 : TmAt w4 t lv sl := T.kept K4 (fun e => by have := hmb _ e; omega)
  have hnewb : ∀ j, j < 257 → ∀ u ∈ Q j, u.b ≠ t.b := fun j hj u hu => hne u.b (by have := C.R.kT j hj u hu; omega)
  have hlen : ∀ i, i < 257 → (Q i).length ≤ 1000000 := fun i hi => by
    have h1 : (Q i).Nodup := List.Pairwise.of_map Pt.b (fun a b h e => h (by rw [e])) (C.R.nd i hi)
    exact Nat.le_trans (len_sub h1 (fun x hx => (M.at hi hx).1)) (by omega)
  refine (place_c C4' t T4 (upd_at _ _ _) hnewb hf0 hf1 (by omega) hx1 hlen).mono ?_
  rintro e w5 ⟨rfl, ⟨v', kd', C5, h1, h2⟩, low5, K5⟩
  have HM5 : MapN Tryd.prog 30 readB datB w5 mb (n + 1) (ts.length + 1) (gm (insP t ts)) := by
    have hmm : mb < w4.heap.size := m4.lt
    refine (m4.kept K5 (fun q => ?_)).congr (fun r _ => ?_)
    · rcases q with q | q | q
      · rw [q] at k4; omega
      · exact hne mb (by omega) q
      · have := C4.R.kV _ (pos_lt _ _) _ q; omega
    · have : gm (insP t ts) r = gm (t :: ts) r := gm_congr (by
        refine (((insP_perm t ts).map fun u => u.x.h).nodup_iff).2 ?_
        rw [List.map_cons, List.nodup_cons]
        exact ⟨fun hm => by obtain ⟨u, hu, e⟩ := List.mem_map.1 hm; exact hnew u hu e, hnd⟩) (by
        rw [List.map_cons, List.nodup_cons]
        exact ⟨fun hm => by obtain ⟨u, hu, e⟩ := List.mem_map.1 hm; exact hnew u hu e, hnd⟩) (fun u => (insP_perm t ts).mem_iff) r
      rw [this, gm_cons]
      by_cases e : t.x.h = r
      · rw [if_pos e, if_pos e.symm]
      · rw [if_neg e, if_neg (fun q => e q.symm)]
  refine ⟨rfl, kd', ?_, HM5, fun b hb hne2 => ?_, ?_⟩
  rotate_left
  · rw [h1 b (Nat.lt_of_lt_of_le hb K4.size), upd_ne _ _ hne2]
  · refine (K4.mono (T := fun b => kd b ≠ 0 ∨ b = t.b) (fun b _ q => .inl (by have := hmb b q; omega))).trans K5 (fun b _ q => ?_)
    rcases q with q | q | q
    · left; rw [q]; omega
    · exact .inr q
    · left; have := C4.R.kV _ (pos_lt _ _) _ q; omega
  · have hlow : ∀ o, o < 5 → w5.cell? ⟨wb, o, none⟩ = w3.cell? ⟨wb, o, none⟩ := fun o ho => (low5 o ho).trans (K4.cell (a := ⟨wb, o, none⟩) lw (fun (q : wb = mb) => by have := hmb _ q; omega))
    have hkk : ∀ b, b < w3.heap.size → kd b ≠ 0 → kd' b = kd b := fun b hb q => by rw [h1 b (Nat.lt_of_lt_of_le hb K4.size), upd_ne _ _ (hne b q)]
    have hpl := pos_lt fr t.x.at_
    refine ⟨⟨_, _, C5, ?_⟩, (hlow 0 (by omega)).trans c0, (hlow 2 (by omega)).trans c2, (hlow 3 (by omega)).trans c3, (hlow 4 (by omega)).trans c4, ?_, ⟨n + 1, hn, ?_⟩, ?_, ?_, ?_⟩
    · exact {
        inj := fun u hu v hv e => by
          rcases mem_insP.1 hu with hu2 | hu2 <;> rcases mem_insP.1 hv with hv2 | hv2
          · rw [hu2, hv2]
          · rw [hu2] at e; exact absurd e.symm (hnewb _ (pos_lt _ _) v (M.in_ hv2))
          · rw [hv2] at e; exact absurd e (hnewb _ (pos_lt _ _) u (M.in_ hu2))
          · exact M.inj u hu2 v hv2 e
        sub := fun i hi u hu => by
          by_cases e : i = pos fr t.x.at_
          · subst e
            rw [upd_at] at hu
            rcases List.mem_append.1 hu with q | q
            · obtain ⟨a1, a2⟩ := M.at hi q
              exact ⟨mem_insP.2 (.inr a1), by simp, .inl a2⟩
            · simp at q
              subst q
              exact ⟨mem_insP.2 (.inl rfl), by simp, .inl rfl⟩
          · rw [upd_ne _ _ e] at hu
            obtain ⟨a1, a2⟩ := M.at hi hu
            exact ⟨mem_insP.2 (.inr a1), by simp, .inl a2⟩
        all := fun u hu => by
          right
          rcases mem_insP.1 hu with rfl | hu
          · exact ⟨_, hpl, by rw [upd_at]; simp⟩
          · refine ⟨pos fr u.x.at_, pos_lt _ _, ?_⟩
            have h5 := M.in_ hu
            by_cases e : pos fr u.x.at_ = pos fr t.x.at_
            · rw [e, upd_at, ← e]; simp [h5]
            · rw [upd_ne _ _ e]; exact h5
        hnd := fun u hu => by simp at hu
        nd := by simp
        rng := fun u hu => by
          rcases mem_insP.1 hu with rfl | hu
          · exact ⟨hx0, hx1⟩
          · exact M.rng u hu }
    · have hia : IsA w4 ab sb cap a := I.kept K4 (fun q => by have := hmb _ q; omega) (fun q => by have := hmb _ q; omega)
      refine hia.kept K5 (fun q => ?_) (fun q => ?_)
      · rcases q with q | q | q
        · rw [q] at k2; omega
        · exact hne ab (by omega) q
        · have := C4.R.kV _ (pos_lt _ _) _ q; omega
      · rcases q with q | q | q
        · rw [q] at k3; omega
        · exact hne sb (by omega) q
        · have := C4.R.kV _ (pos_lt _ _) _ q; omega
    · rw [insP_length]
      exact HM5
    · rw [hkk ab I.lta (by omega)]; exact k2
    · rw [hkk sb I.lts (by omega)]; exact k3
    · rw [hkk mb ?_ (by omega)]; exact k4
      exact (C.R.lo mb (by omega)).2
end Go.Proofs.YtjlcchjcppkbjaaDoor
/- Add. -/
namespace Go.Proofs.YtjlcchjcppkbjaaDoor
open Go.RowKit
/-- The wheel has become another; what was there but is none of its blocks is as it was. -/
def StepW (w : World) (base wb : Nat) (kd : Nat → Nat) (W' : Wh) (w' : World) : Prop := ∃ kd', IsW w' base wb kd' W' ∧ (∀ b, b < w.heap.size → kd' b = kd b) ∧ Kept (fun b => kd b ≠ 0) w w'
theorem StepW.same {w w' : World} {base wb : Nat} {kd : Nat → Nat} {W : Wh} (h : IsW w base wb kd W) (K : Kept (fun _ => False) w w') : StepW w base wb kd W w' := ⟨kd, h.same K, fun _ _ => rfl, K.mono fun _ _ h => h.elim⟩
theorem StepW.later {w w' w2 : World} {base wb : Nat} {kd : Nat → Nat} {W : Wh} (h : StepW w base wb kd W w') (K : Kept (fun _ => False) w' w2) : StepW w base wb kd W w2 := by
  obtain ⟨kd', h1, h2, h3⟩ := h
  exact ⟨kd', h1.same K, h2, h3.trans K fun _ _ h => h.elim⟩
theorem WOk.short {W : Wh} (ok : WOk W) : W.l.length ≤ 4096 := by
  have h1 := ok.len
  have h2 := ok.inv.len
  have h3 : W.a.len ≤ W.a.sl.length := List.countP_le_length
  omega
variable {w w' : World} {base wb ab sb cap mb : Nat} {kd kd' : Nat → Nat} {fr now seq : Int} {a a' : AA} {ts : List Pt}
set_option maxRecDepth 100000 in
set_option maxHeartbeats 1000000 in
theorem add_yes (h : WMem w base wb ab sb cap mb kd (now + 1) now seq a ts ts) (at_ id : Int) (h00 : 0 ≤ now) (h0 : 0 ≤ at_) (h1 : at_ ≤ 4611686018427387904) (h2 : now < at_) (h3 : 0 ≤ seq) (h4 : seq ≤ 1000000000) (hts : ts.length ≤ 4096) {hd : Int} (hp : a.put id = (a', hd, 0)) (hh : 0 ≤ hd ∧ hd ≤ 8796093026303)
    (hnew : ∀ u ∈ ts, u.x.h ≠ hd) (hnd : (ts.map fun u => u.x.h).Nodup) :
    Calls Tryd.prog 15 #[.pointer (some ⟨wb, 0, none⟩), .int .i64 at_, .int .i64 id] w fun e w' => e = .returned (.tuple #[.int .i64 hd, .int .i64 0]) ∧
      ∃ B kd', WMem w' base wb ab sb cap mb kd' (now + 1) now (seq + 1) a' (insP ⟨⟨at_, id, hd, seq + 1⟩, B⟩ ts) (insP ⟨⟨at_, id, hd, seq + 1⟩, B⟩ ts) ∧ (∀ b, b < w.heap.size → kd' b = kd b) ∧ Kept (fun b => kd b ≠ 0) w w' := by
  have HV := Lib.hid (valid_c h)
  have c0 := h.c0
  have c2 := h.c2
  have c3 := h.c3
  have c4 := h.c4
  have lw := h.ltw
  have fz2 := h.fz 2
  have HP := Lib.hid (put_a h.ar hp)
  obtain ⟨n, hn, hm⟩ := h.map
  have hkab := h.kab
  have hksb := h.ksb
  have hkmb := h.kmb
  have hkw := h.kw
  have hlo := h.lo
  have hbase : base ≤ w.heap.size := Nat.le_of_lt (Nat.lt_of_le_of_lt (hlo wb (by omega)).1 lw)
  have hwab : ¬ (wb = ab ∨ wb = sb) := fun q => by rcases q with q | q <;> (rw [q] at hkw; omega)
  have hK1 : Hid (∀ w1, Kept (fun b => b = ab ∨ b = sb) w w1 → w1.cell? ⟨wb, 2, none⟩ = some (.int .i64 seq) ∧ w1.cell? ⟨wb, 4, none⟩ = some (.map (some mb)) ∧ w1.frozen? ⟨wb, 2, none⟩ = false ∧ wb < w1.heap.size) := Lib.hid fun w1 k =>
    ⟨(k.cell (a := ⟨wb, 2, none⟩) lw hwab).trans c2, (k.cell (a := ⟨wb, 4, none⟩) lw hwab).trans c4, (k.frozen (a := ⟨wb, 2, none⟩) lw hwab).trans fz2, Nat.lt_of_lt_of_le lw k.size⟩
  -- the wheel behind Put, the new number and the new block
  have HM3 : Hid (∀ w1, IsA w1 ab sb cap a' → Kept (fun b => b = ab ∨ b = sb) w w1 →
      WMem ((w1.setCell ⟨wb, 2, none⟩ (.int .i64 (seq + 1))).alloc (.cells #[.int .i64 at_, .int .i64 id, .int .i64 hd, .int .i64 (seq + 1), .int .i64 0, .int .i64 0] 92)) base wb ab sb cap mb kd (now + 1) now (seq + 1) a' ts ts ∧
      TmAt ((w1.setCell ⟨wb, 2, none⟩ (.int .i64 (seq + 1))).alloc (.cells #[.int .i64 at_, .int .i64 id, .int .i64 hd, .int .i64 (seq + 1), .int .i64 0, .int .i64 0] 92)) ⟨⟨at_, id, hd, seq + 1⟩, w1.heap.size⟩ 0 0 ∧
      MapN Tryd.prog 30 readB datB ((w1.setCell ⟨wb, 2, none⟩ (.int .i64 (seq + 1))).alloc (.cells #[.int .i64 at_, .int .i64 id, .int .i64 hd, .int .i64 (seq + 1), .int .i64 0, .int .i64 0] 92)) mb n ts.length (gm ts) ∧
      Kept (fun b => kd b ≠ 0) w ((w1.setCell ⟨wb, 2, none⟩ (.int .i64 (seq + 1))).alloc (.cells #[.int .i64 at_, .int .i64 id, .int .i64 hd, .int .i64 (seq + 1), .int .i64 0, .int .i64 0] 92)) ∧ w.heap.size ≤ w1.heap.size) := Lib.hid fun w1 I1 K1 => by
    have K3 : Kept (fun b => b = ab ∨ b = sb ∨ b = wb) w ((w1.setCell ⟨wb, 2, none⟩ (.int .i64 (seq + 1))).alloc (.cells #[.int .i64 at_, .int .i64 id, .int .i64 hd, .int .i64 (seq + 1), .int .i64 0, .int .i64 0] 92)) :=
      ((K1.mono (T := fun b => b = ab ∨ b = sb ∨ b = wb) (fun b _ q => q.elim .inl (fun q => .inr (.inl q)))).setCell _ _ (fun _ => .inr (.inr rfl))).alloc _
    have K13 : Kept (fun b => b = wb) w1 ((w1.setCell ⟨wb, 2, none⟩ (.int .i64 (seq + 1))).alloc (.cells #[.int .i64 at_, .int .i64 id, .int .i64 hd, .int .i64 (seq + 1), .int .i64 0, .int .i64 0] 92)) := ((Kept.refl (fun b => b = wb) w1).setCell _ _ (fun _ => rfl)).alloc _
    have hl1 : wb < w1.heap.size := Nat.lt_of_lt_of_le lw K1.size
    have hcell : ∀ o, ((w1.setCell ⟨wb, 2, none⟩ (.int .i64 (seq + 1))).alloc (.cells #[.int .i64 at_, .int .i64 id, .int .i64 hd, .int .i64 (seq + 1), .int .i64 0, .int .i64 0] 92)).cell? ⟨wb, o, none⟩ = (w1.setCell ⟨wb, 2, none⟩ (.int .i64 (seq + 1))).cell? ⟨wb, o, none⟩ := fun o => World.cell?_alloc_past _ _ _ (by simpa using hl1)
    have hoth : ∀ o, o ≠ 2 → ((w1.setCell ⟨wb, 2, none⟩ (.int .i64 (seq + 1))).alloc (.cells #[.int .i64 at_, .int .i64 id, .int .i64 hd, .int .i64 (seq + 1), .int .i64 0, .int .i64 0] 92)).cell? ⟨wb, o, none⟩ = w.cell? ⟨wb, o, none⟩ := fun o ho => by
      rw [hcell, cell_set_off _ _ _ _ _ ho]; exact K1.cell (a := ⟨wb, o, none⟩) lw hwab
    obtain ⟨V, Q, C, M⟩ := h.core
    have C1 : Core w1 wb base V Q kd (now + 1) := C.kept K1 hwab (fun i hi b hb q => by have h1 := C.R.kV i hi b hb; rcases q with q | q <;> (rw [q] at h1; omega)) (fun i hi t ht q => by have h1 := C.R.kT i hi t ht; rcases q with q | q <;> (rw [q] at h1; omega))
    have C2 : Core (w1.setCell ⟨wb, 2, none⟩ (.int .i64 (seq + 1))) wb base V Q kd (now + 1) :=
      ⟨C1.R.setLow (by omega) _, C1.U.set_off (by omega) _, fun o => by rw [World.frozen?_setCell]; exact C1.fz o, (cell_set_off _ _ _ _ _ (by omega)).trans C1.fr⟩
    have C3 := C2.same ((Kept.refl (fun _ => False) _).alloc (.cells #[.int .i64 at_, .int .i64 id, .int .i64 hd, .int .i64 (seq + 1), .int .i64 0, .int .i64 0] 92))
    have hm3 : MapN Tryd.prog 30 readB datB ((w1.setCell ⟨wb, 2, none⟩ (.int .i64 (seq + 1))).alloc (.cells #[.int .i64 at_, .int .i64 id, .int .i64 hd, .int .i64 (seq + 1), .int .i64 0, .int .i64 0] 92)) mb n ts.length (gm ts) := hm.kept K3 (fun q => by rcases q with q | q | q <;> (rw [q] at hkmb; omega))
    have hnb : ∀ j, ((w1.setCell ⟨wb, 2, none⟩ (.int .i64 (seq + 1))).alloc (.cells #[.int .i64 at_, .int .i64 id, .int .i64 hd, .int .i64 (seq + 1), .int .i64 0, .int .i64 0] 92)).cell? ⟨w1.heap.size, j, none⟩ = (#[.int .i64 at_, .int .i64 id, .int .i64 hd, .int .i64 (seq + 1), .int .i64 0, .int .i64 0] : Array Value)[j]? := fun j => World.cell?_alloc_at _ _ _ _ (by simp)
    refine ⟨⟨⟨V, Q, C3, M⟩, (hoth 0 (by omega)).trans c0, ?_, (hoth 3 (by omega)).trans c3, (hoth 4 (by omega)).trans c4, I1.kept K13 (fun q => by rw [q] at hkab; omega) (fun q => by rw [q] at hksb; omega), ⟨n, by omega, hm3⟩, hkab, hksb, hkmb⟩, ?_, hm3, K3.mono (fun b _ q => by rcases q with q | q | q <;> (rw [q]; omega)), K1.size⟩
    · rw [hcell]; exact cell_set_at _ ((K1.cell (a := ⟨wb, 2, none⟩) lw hwab).trans c2)
    · exact ⟨hnb 0, hnb 1, hnb 2, hnb 3, hnb 4, hnb 5, fun o => World.frozen?_alloc_at _ _ _ _ (by simp), by simp, ⟨_, _, by have h := heap_alloc_new (w1.setCell ⟨wb, 2, none⟩ (.int .i64 (seq + 1))) (.cells #[.int .i64 at_, .int .i64 id, .int .i64 hd, .int .i64 (seq + 1), .int .i64 0, .int .i64 0] 92); rw [World.size_setCell] at h; exact h⟩⟩
  have HPL : Hid (∀ w1 w4, IsA w1 ab sb cap a' → Kept (fun b => b = ab ∨ b = sb) w w1 → MapN Tryd.prog 30 readB datB w4 mb (n + 1) (ts.length + 1) (fun s => if s = hd then some (some w1.heap.size) else gm ts s) →
      Kept (fun i => i = mb) ((w1.setCell ⟨wb, 2, none⟩ (.int .i64 (seq + 1))).alloc (.cells #[.int .i64 at_, .int .i64 id, .int .i64 hd, .int .i64 (seq + 1), .int .i64 0, .int .i64 0] 92)) w4 →
      Calls Tryd.prog 41 #[.pointer (some ⟨wb, 0, none⟩), .pointer (some ⟨w1.heap.size, 0, none⟩)] w4 fun e w5 => e = .returned (.tuple #[]) ∧ ∃ B kd', WMem w5 base wb ab sb cap mb kd' (now + 1) now (seq + 1) a' (insP ⟨⟨at_, id, hd, seq + 1⟩, B⟩ ts) (insP ⟨⟨at_, id, hd, seq + 1⟩, B⟩ ts) ∧ (∀ b, b < w.heap.size → kd' b = kd b) ∧ Kept (fun b => kd b ≠ 0) w w5) := Lib.hid fun w1 w4 I1 K1 m4 K4 => by
    obtain ⟨M3, T3, hm3, K3, hsz⟩ := HM3.out w1 I1 K1
    have hk0 : kd w1.heap.size = 0 := by
      by_cases e : kd w1.heap.size = 0
      · exact e
      · have := (hlo _ e).2; omega
    refine (insert_c (t := ⟨⟨at_, id, hd, seq + 1⟩, w1.heap.size⟩) M3 T3 (by simp only; omega) hk0 (by omega) (by omega) (by simp only; omega) h1 (by omega) hnew hnd (n := n) (by omega) m4 K4).mono ?_
    rintro e w5 ⟨rfl, kd', M5, -, hk5, K5⟩
    refine ⟨rfl, w1.heap.size, kd', M5, fun b hb => hk5 b (Nat.lt_of_lt_of_le hb K3.size) (fun (e : b = w1.heap.size) => by omega), K3.trans K5 (fun b hb q => q.elim (fun h => h) (fun (e : b = w1.heap.size) => by omega))⟩
  have HHD : Hid (Wf hd) := Lib.hid (Wf.of (by omega) (by omega))
  have HGN : Hid (gm ts hd = none) := Lib.hid (gm_none.2 hnew)
  have HNB : Hid (n < maxLen) := Lib.hid (by unfold maxLen; omega)
  have tok : 0 ≤ seq + 1 ∧ seq + 1 ≤ 1000000001 := by omega
  clear h hp hkab hksb hkw hkmb hlo hbase hwab hm hn hnew hnd hh fz2
  go_enter Tryd.func15, Tryd.ntmps15
  go_wp2_with (first | (go_at_call 39; refine HV.out.mono ?_; rintro e w' ⟨rfl, rfl⟩) | (go_at_call 40; refine HP.out.mono ?_; rintro e w1 ⟨rfl, I1, K1⟩; obtain ⟨d2, d4, df, dl⟩ := hK1.out w1 K1; have HI1 := Lib.hid I1; have HK1 := Lib.hid K1; clear I1 K1) |
    (at_mapUpdate; refine wpList_storeN codeB rfl _ _ _ 76 rfl 90 Tryd.underlying30 Tryd.underlying76 mb n ts.length (gm ts) rfl (HM3.out w1 HI1.out HK1.out).2.2.1 HNB.out hd rfl HHD.out HGN.out (some w1.heap.size) rfl ?_; intro w4 m4 k4; have HC4 := Lib.hid (HPL.out w1 w4 HI1.out HK1.out m4 k4); clear m4 k4 d2 d4 df dl) |
    (go_at_call 41; refine HC4.out.mono ?_; rintro e w5 ⟨rfl, hfin⟩))
  go_ret2
  exact ⟨rfl, hfin⟩
theorem add_arg (h : WMem w base wb ab sb cap mb kd fr now seq a ts ts) (at_ id : Int) (h0 : at_ < 0 ∨ 4611686018427387904 < at_) :
    Calls Tryd.prog 15 #[.pointer (some ⟨wb, 0, none⟩), .int .i64 at_, .int .i64 id] w fun e w' => e = .returned (.tuple #[.int .i64 0, .int .i64 2]) ∧ w' = w := by
  have HV := Lib.hid (valid_c h)
  clear h
  rcases h0 with h0 | h0
  · go_enter Tryd.func15, Tryd.ntmps15
    go_wp2_with (go_at_call 39; refine HV.out.mono ?_; rintro e w' ⟨rfl, rfl⟩)
    go_ret2
    exact ⟨rfl, rfl⟩
  · have h1 : ¬ at_ < 0 := by omega
    go_enter Tryd.func15, Tryd.ntmps15
    go_wp2_with (go_at_call 39; refine HV.out.mono ?_; rintro e w' ⟨rfl, rfl⟩)
    go_ret2
    exact ⟨rfl, rfl⟩
theorem add_order (h : WMem w base wb ab sb cap mb kd fr now seq a ts ts) (at_ id : Int) (h0 : 0 ≤ at_) (h1 : at_ ≤ 4611686018427387904) (h2 : at_ ≤ now) :
    Calls Tryd.prog 15 #[.pointer (some ⟨wb, 0, none⟩), .int .i64 at_, .int .i64 id] w fun e w' => e = .returned (.tuple #[.int .i64 0, .int .i64 8]) ∧ w' = w := by
  have HV := Lib.hid (valid_c h)
  have c0 := h.c0
  have lw := h.ltw
  clear h
  go_enter Tryd.func15, Tryd.ntmps15
  go_wp2_with (go_at_call 39; refine HV.out.mono ?_; rintro e w' ⟨rfl, rfl⟩)
  go_ret2
  exact ⟨rfl, rfl⟩
theorem add_full (h : WMem w base wb ab sb cap mb kd fr now seq a ts ts) (at_ id : Int) (h0 : 0 ≤ at_) (h1 : at_ ≤ 4611686018427387904) (h2 : now < at_) (hp : a.put id = (a, 0, 4)) :
    Calls Tryd.prog 15 #[.pointer (some ⟨wb, 0, none⟩), .int .i64 at_, .int .i64 id] w fun e w' => e = .returned (.tuple #[.int .i64 0, .int .i64 4]) ∧ WMem w' base wb ab sb cap mb kd fr now seq a ts ts ∧ Kept (fun b => kd b ≠ 0) w w' := by
  have HV := Lib.hid (valid_c h)
  have c0 := h.c0
  have c3 := h.c3
  have lw := h.ltw
  have HP := Lib.hid (put_a h.ar hp)
  have HF : Hid (∀ w1, IsA w1 ab sb cap a → Kept (fun b => b = ab ∨ b = sb) w w1 → WMem w1 base wb ab sb cap mb kd fr now seq a ts ts ∧ Kept (fun b => kd b ≠ 0) w w1) := Lib.hid fun w1 I K => by
    have hkab := h.kab
    have hksb := h.ksb
    have hkw := h.kw
    have hkmb := h.kmb
    have hwab : ¬ (wb = ab ∨ wb = sb) := fun q => by rcases q with q | q <;> (rw [q] at hkw; omega)
    obtain ⟨⟨V, Q, C, M⟩, b0, b2, b3, b4, b5, ⟨n, h6, h7⟩, k1, k2, k3⟩ := h
    exact ⟨⟨⟨V, Q, C.kept K hwab (fun i hi b hb q => by have h1 := C.R.kV i hi b hb; rcases q with q | q <;> (rw [q] at h1; omega)) (fun i hi t ht q => by have h1 := C.R.kT i hi t ht; rcases q with q | q <;> (rw [q] at h1; omega)), M⟩,
      (K.cell (a := ⟨wb, 0, none⟩) lw hwab).trans b0, (K.cell (a := ⟨wb, 2, none⟩) lw hwab).trans b2, (K.cell (a := ⟨wb, 3, none⟩) lw hwab).trans b3, (K.cell (a := ⟨wb, 4, none⟩) lw hwab).trans b4, I, ⟨n, h6, h7.kept K (fun q => by rcases q with q | q <;> (rw [q] at hkmb; omega))⟩, k1, k2, k3⟩,
      K.mono (fun b _ q => by rcases q with q | q <;> (rw [q]; omega))⟩
  clear h hp
  go_enter Tryd.func15, Tryd.ntmps15
  go_wp2_with (first | (go_at_call 39; refine HV.out.mono ?_; rintro e w' ⟨rfl, rfl⟩) | (go_at_call 40; refine HP.out.mono ?_; rintro e w1 ⟨rfl, I1, K1⟩))
  go_ret2
  exact ⟨rfl, HF.out _ I1 K1⟩

theorem add_c {W W' : Wh} (h : IsW w base wb kd W) (hs : W.seq ≤ 1000000000) (at_ id : Int) {hd er : Int} (hp : W.add at_ id = (W', hd, er)) :
    Calls Tryd.prog 15 #[.pointer (some ⟨wb, 0, none⟩), .int .i64 at_, .int .i64 id] w fun e w' => e = .returned (.tuple #[.int .i64 hd, .int .i64 er]) ∧ StepW w base wb kd W' w' := by
  obtain ⟨ok, ab, sb, cap, mb, ts, M, hts⟩ := h
  have hnow := ok.now
  have hN : NEVER = 4611686018427387904 := rfl
  have hlen : ts.length ≤ 4096 := by have := ok.short; rw [← hts, List.length_map] at this; exact this
  have hp0 := hp
  unfold Wh.add at hp
  split at hp
  · rename_i h1
    injection hp with e1 e2; injection e2 with e2 e3; subst e1 e2 e3
    refine (add_arg M at_ id h1).mono ?_
    rintro e w' ⟨rfl, rfl⟩
    exact ⟨rfl, StepW.same ⟨ok, ab, sb, cap, mb, ts, M, hts⟩ (Kept.refl _ _)⟩
  rename_i h1
  split at hp
  · rename_i h2
    injection hp with e1 e2; injection e2 with e2 e3; subst e1 e2 e3
    refine (add_order M at_ id (by omega) (by omega) h2).mono ?_
    rintro e w' ⟨rfl, rfl⟩
    exact ⟨rfl, StepW.same ⟨ok, ab, sb, cap, mb, ts, M, hts⟩ (Kept.refl _ _)⟩
  rename_i h2
  rcases ok.add hp0 with ⟨q1, q2, q3⟩ | ⟨q1, ok', q2, q3, q4, q5, q6, q7, q8, q9⟩
  · split at hp
    · injection hp with e1 e2; injection e2 with e2 e3; exact absurd e3.symm q1
    · rename_i h3
      injection hp with e1 e2; injection e2 with e2 e3; subst e1 e2 e3
      have hput : W.a.put id = (W.a, 0, 4) := by
        obtain ⟨a', h', e', hput⟩ : ∃ a' h' e', W.a.put id = (a', h', e') := ⟨_, _, _, rfl⟩
        rcases put_spec ok.inv hput with ⟨z, -⟩ | ⟨z1, z2, z3, -⟩
        · rw [hput] at h3; exact absurd z h3
        · rw [hput, z1, z2, z3]
      refine (add_full M at_ id (by omega) (by omega) (by omega) hput).mono ?_
      rintro e w' ⟨rfl, M', K⟩
      exact ⟨rfl, kd, ⟨ok, ab, sb, cap, mb, ts, M', hts⟩, fun _ _ => rfl, K⟩
  · subst q1
    have hne : ∀ u ∈ ts, u.x.h ≠ hd := fun u hu => q7 u.x (by rw [← hts]; exact List.mem_map.2 ⟨u, hu, rfl⟩)
    have hnd : (ts.map fun u => u.x.h).Nodup := by have := ok.inj; rw [← hts, List.map_map] at this; exact this
    refine (add_yes M at_ id hnow.1 (by omega) q3 q2 ok.seq0 hs hlen q9 ⟨by have := q8.hlo; omega, q8.hhi⟩ hne hnd).mono ?_
    rintro e w' ⟨rfl, B, kd', M', hk, K⟩
    refine ⟨rfl, kd', ⟨ok', ab, sb, cap, mb, insP ⟨⟨at_, id, hd, W.seq + 1⟩, B⟩ ts, ?_, ?_⟩, hk, K⟩
    · rw [q4, q5]; exact M'
    · rw [insP_x, q6, hts]
end Go.Proofs.YtjlcchjcppkbjaaDoor
