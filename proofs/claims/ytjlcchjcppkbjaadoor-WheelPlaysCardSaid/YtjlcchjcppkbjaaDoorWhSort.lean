/- WhSort: texts for the statements of this seat: contracts of functions, walks, plain laws. Conditions: none. -/
import Derived.Test.YtjlcchjcppkbjaaDoorWhEn
import Derived.Test.YtjlcchjcppkbjaaDoorWhLay
set_option linter.all false
/- slices.SortFunc and slices.MinFunc at pointers to timers, by before. -/
namespace Go.Proofs.YtjlcchjcppkbjaaDoor
open Go.RowKit Go.Shelf Go.Sort

/-- What the comparison reads of a timer. -/
structure TmKey (w : World) (t : Pt) : Prop where
  at_ : w.cell? ⟨t.b, 0, none⟩ = some (.int .i64 t.x.at_)
  seq : w.cell? ⟨t.b, 3, none⟩ = some (.int .i64 t.x.seq)
  lt : t.b < w.heap.size
theorem TmAt.key {w : World} {t : Pt} {lv sl : Int} (h : TmAt w t lv sl) : TmKey w t := ⟨h.at_, h.seq, h.lt⟩
theorem TmIn.key {w : World} {t : Pt} {i : Nat} (h : TmIn w t i) : TmKey w t := let ⟨_, h, _⟩ := h; h.key
/-- Timers outside the row. -/
abbrev PtW (w : World) (blk : Nat) : Type := {t : Pt // TmKey w t ∧ t.b ≠ blk}
def encP {w : World} {blk : Nat} (x : PtW w blk) : Value := ptr x.1
def cmpP {w : World} {blk : Nat} (x y : PtW w blk) : Int := cmpT x.1.x y.1.x
theorem encP_one {w : World} {blk : Nat} : OneCell (encP (w := w) (blk := blk)) := fun _ => rfl
theorem cmpP_lt {w : World} {blk : Nat} (x y : PtW w blk) : ltOf cmpP x y = true ↔ x.1.x.lt y.1.x := by
  unfold ltOf cmpP
  rw [decide_eq_true_eq, cmpT_lt]
theorem cmpP_nlt {w : World} {blk : Nat} (x y : PtW w blk) : ltOf cmpP x y = false ↔ ¬ x.1.x.lt y.1.x := by
  rw [← cmpP_lt]; simp
theorem cmpP_swo {w : World} {blk : Nat} : SWO (ltOf (cmpP (w := w) (blk := blk))) where
  irrefl x := (cmpP_nlt x x).2 (Tm.lt_irrefl _)
  trans x y z h1 h2 := (cmpP_lt x z).2 (Tm.lt_trans ((cmpP_lt x y).1 h1) ((cmpP_lt y z).1 h2))
  ntrans x y z h1 h2 := by
    rw [cmpP_nlt] at *
    unfold Tm.lt at *
    omega
theorem grown_sortP {α : Type} [Inhabited α] {enc : α → Value} {w : World} {g off n : Nat} {os : Array Obj} (d : Array α) : w.grownBy (sortWorld enc w g off n d os) (some g) := by
  unfold sortWorld
  refine ⟨rfl, rfl, rfl, by simp, fun k hk hne => ?_⟩
  rw [heap_grow_old _ _ (by simpa using hk)]
  have : g ≠ k := fun e => hne (by rw [e])
  simp [putRow, mapBlock, Sort.ahead, Array.getElem?_modify, this]
theorem eg46 : ∀ args w, (callFunc 46 args).run Tryd.prog w = .ok (.enter 46 args) w := enters_of Tryd.func46 (by kernel_rfl) rfl
theorem before_lays {w : World} {blk : Nat} [Inhabited (PtW w blk)] (off size : Nat) : CmpLays1 Tryd.prog 46 #[] (encP (w := w) (blk := blk)) cmpP blk off size w := fun m os dk hs x y => by
  have K := Kept.of_grown (grown_sortP (enc := encP (w := w) (blk := blk)) (w := w) (g := blk) (off := off) (n := m) (os := os) dk)
  have hc : ∀ (z : PtW w blk) (o : Nat), (sortWorld encP w blk off m dk os).cell? ⟨z.1.b, o, none⟩ = w.cell? ⟨z.1.b, o, none⟩ := fun z o => K.cell (a := ⟨z.1.b, o, none⟩) z.2.1.lt (fun e => z.2.2 (by injection e with e; exact e.symm))
  exact before_c x.1.b y.1.b x.1.x y.1.x _ ((hc x 0).trans x.2.1.at_) ((hc y 0).trans y.2.1.at_) ((hc x 3).trans x.2.1.seq) ((hc y 3).trans y.2.1.seq)

/-- The list as the sort sees it. -/
def lift {w : World} {blk : Nat} (l : List Pt) (h : ∀ t ∈ l, TmKey w t ∧ t.b ≠ blk) : List (PtW w blk) := l.attach.map fun t => ⟨t.1, h t.1 t.2⟩
theorem lift_length {w : World} {blk : Nat} (l : List Pt) (h : ∀ t ∈ l, TmKey w t ∧ t.b ≠ blk) : (lift l h).length = l.length := by simp [lift]
theorem lift_val {w : World} {blk : Nat} (l : List Pt) (h : ∀ t ∈ l, TmKey w t ∧ t.b ≠ blk) : (lift l h).map Subtype.val = l := by simp [lift]
theorem lift_get {w : World} {blk : Nat} {l : List Pt} (h : ∀ t ∈ l, TmKey w t ∧ t.b ≠ blk) {j : Nat} (hj : j < (lift l h).length) : l[j]? = some ((lift l h)[j]).1 := by
  have := congrArg (fun m => m[j]?) (lift_val l h)
  simp only [List.getElem?_map] at this
  rw [← this, List.getElem?_eq_getElem hj]
  rfl
theorem lift_holds {w : World} {base g cap n : Nat} {l : List Pt} [Inhabited (PtW w g)] (hown : w.ownsRow base 90 1 (.slice (some ⟨g, 0, none⟩) n cap) n (l.map ptr)) (h : ∀ t ∈ l, TmKey w t ∧ t.b ≠ g) : Holds encP w g 0 (lift l h).toArray := by
  intro j hj
  have hj' : j < (lift l h).length := by simpa using hj
  have hl := lift_length l h
  have hn : l.length = n := by have := hown.1; rw [List.length_map] at this; omega
  refine ⟨?_, hown.frozenAt _⟩
  rw [Nat.zero_add, hown.cellAt j (by omega), List.getElem?_map, lift_get h hj', getElem!_pos _ j hj]
  simp [encP]

/-- The slice v reads as the timers l. -/
structure Ptrs (w : World) (v : Value) (l : List Pt) : Prop where
  len : ∃ p c, v = .slice p l.length c
  get : ∀ k t, l[k]? = some t → ∃ g c, v = .slice (some ⟨g, 0, none⟩) l.length c ∧ w.cell? ⟨g, k, none⟩ = some (ptr t) ∧ g < w.heap.size
theorem Ptrs.of_own {w : World} {base : Nat} {v : Value} {l : List Pt} (h : w.ownsRow base 90 1 v l.length (l.map ptr)) : Ptrs w v l := ⟨own_sl h, fun _ _ hk => own_ptr h hk⟩
theorem Ptrs.kept {S : Nat → Prop} {w w' : World} {v : Value} {l : List Pt} (h : Ptrs w v l) (K : Kept S w w') (hS : ∀ b, v.ownBlock = some b → ¬ S b) : Ptrs w' v l :=
  ⟨h.len, fun k t hk => by
    obtain ⟨g, c, rfl, h1, h2⟩ := h.get k t hk
    exact ⟨g, c, rfl, (K.cell (a := ⟨g, k, none⟩) h2 (hS g rfl)).trans h1, Nat.lt_of_lt_of_le h2 K.size⟩⟩
theorem Ptrs.nil (w : World) : Ptrs w (.slice none 0 0) [] := ⟨⟨none, 0, rfl⟩, fun k t h => by simp at h⟩
theorem sortP_c {w : World} {base : Nat} {v : Value} (l : List Pt) (hl : l.length ≤ 1000000) (hown : w.ownsRow base 90 1 v l.length (l.map ptr)) (hk : ∀ t ∈ l, TmKey w t ∧ v.ownBlock ≠ some t.b) :
    Calls Tryd.prog 45 #[v, .func (.func 46) #[] #[]] w fun e w' => e = .returned (.tuple #[]) ∧ ∃ d : List Pt, d.Perm l ∧ d.Pairwise (fun x y => ¬ y.x.lt x.x) ∧ Ptrs w' v d ∧ Kept (fun b => v.ownBlock = some b) w w' := by
  rcases hown.2 with ⟨rfl, h0⟩ | ⟨g, cap, cur, rfl, hg, hh, h1, h2, h3, h4⟩
  · obtain rfl : l = [] := List.eq_nil_of_length_eq_zero h0
    refine Calls.mono (AnyF.slices_SortFunc_none (P := Tryd.prog) (ρ := Tryd.sortP_ren) { Tryd.sortP with } none 0 _ w) ?_
    rintro e w' ⟨rfl, rfl⟩
    exact ⟨rfl, [], List.Perm.refl _, List.Pairwise.nil, Ptrs.of_own hown, Kept.refl _ _⟩
  · have hbl : g < w.heap.size := (Array.getElem?_eq_some_iff.1 hh).1
    by_cases hl0 : l = []
    · subst hl0
      refine Calls.mono (AnyF.slices_SortFunc_none (P := Tryd.prog) (ρ := Tryd.sortP_ren) { Tryd.sortP with } (some ⟨g, 0, none⟩) cap _ w) ?_
      rintro e w' ⟨rfl, rfl⟩
      exact ⟨rfl, [], List.Perm.refl _, List.Pairwise.nil, Ptrs.of_own hown, Kept.refl _ _⟩
    have hk' : ∀ t ∈ l, TmKey w t ∧ t.b ≠ g := fun t ht => ⟨(hk t ht).1, fun e => (hk t ht).2 (by rw [e]; rfl)⟩
    obtain ⟨t0, ht0⟩ := List.exists_mem_of_ne_nil l hl0
    haveI : Inhabited (PtW w g) := ⟨⟨t0, hk' t0 ht0⟩⟩
    have hH := lift_holds hown hk'
    have hsz : (lift l hk').toArray.size = l.length := by simp [lift_length]
    have hc := Any.slices_SortFunc Tryd.sortP encP encP_one cmpP cmpP_swo 46 #[] g 0 cap (lift l hk').toArray w eg46 (before_lays 0 _) hH hbl (by rw [hsz]; omega)
    rw [hsz] at hc
    refine Calls.mono hc ?_
    rintro e w' ⟨rfl, d', n, os, hp, hs, rfl⟩
    have hd' : d'.size = l.length := by rw [hp.1, hsz]
    have hperm : d'.toList.Perm (lift l hk') := by
      have := hp.2.2
      have e1 : d'.extract 0 l.length = d' := by rw [← hd']; simp
      have e2 : (lift l hk').toArray.extract 0 l.length = (lift l hk').toArray := by simp [List.take_of_length_le, lift_length]
      rw [e1, e2] at this
      simpa using this
    refine ⟨rfl, d'.toList.map Subtype.val, ?_, ?_, ?_, ?_⟩
    · have := hperm.map Subtype.val
      rwa [lift_val] at this
    · rw [List.pairwise_map, List.pairwise_iff_getElem]
      intro i j hi hj hij
      have hi' : i < d'.size := by simpa using hi
      have hj' : j < d'.size := by simpa using hj
      have := hs i j (by omega) hij (by omega)
      rw [getElem!_pos _ i hi', getElem!_pos _ j hj', cmpP_nlt] at this
      simpa using this
    · have hz : (d'.toList.map Subtype.val).length = l.length := by simp [hd']
      rw [← hz] at hown hc ⊢
      refine ⟨⟨some ⟨g, 0, none⟩, cap, rfl⟩, fun k t hkt => ⟨g, cap, rfl, ?_, ?_⟩⟩
      · obtain ⟨q, hq⟩ := List.getElem?_eq_some_iff.1 hkt
        have hjd : k < d'.size := by simpa using q
        unfold sortWorld
        have hb2 : g < (putRow encP (Sort.ahead w n) g 0 d').heap.size := by simpa using hbl
        rw [cell?_grow _ _ _ hb2]
        have hH2 : Holds encP (Sort.ahead w n) g 0 (lift l hk').toArray := hH
        have := (holds_putRow encP (Sort.ahead w n) g 0 (lift l hk').toArray d' hH2 (by rw [hd', hsz]) k hjd).1
        rw [Nat.zero_add] at this
        rw [this, getElem!_pos _ k hjd]
        simp only [encP, Option.some.injEq]
        rw [← hq]
        simp
      · exact Nat.lt_of_lt_of_le hbl (grown_sortP d').size
    · have := Kept.of_grown (grown_sortP (enc := encP (w := w) (blk := g)) (w := w) (g := g) (off := 0) (n := n) (os := os) d')
      refine this.mono fun i _ hi => ?_
      simpa [Value.ownBlock] using hi

theorem pick_spec {w : World} {blk : Nat} [Inhabited (PtW w blk)] (d : Array (PtW w blk)) : ∀ k, k < d.size → (∃ j, j ≤ k ∧ Lib.pickBy (fun x m => decide (cmpP x m < 0)) d k = d[j]!) ∧ ∀ j, j ≤ k → ¬ (d[j]!).1.x.lt (Lib.pickBy (fun x m => decide (cmpP x m < 0)) d k).1.x
  | 0, h => ⟨⟨0, Nat.le_refl _, rfl⟩, fun j hj => by
    obtain rfl : j = 0 := by omega
    exact Tm.lt_irrefl _⟩
  | k + 1, h => by
    obtain ⟨⟨j0, hj0, e0⟩, h2⟩ := pick_spec d k (by omega)
    simp only [Lib.pickBy]
    by_cases hb : decide (cmpP d[k + 1]! (Lib.pickBy (fun x m => decide (cmpP x m < 0)) d k) < 0) = true
    · rw [if_pos hb]
      have hlt : (d[k + 1]!).1.x.lt (Lib.pickBy (fun x m => decide (cmpP x m < 0)) d k).1.x := (cmpT_lt _ _).1 (of_decide_eq_true hb)
      refine ⟨⟨k + 1, Nat.le_refl _, rfl⟩, fun j hj => ?_⟩
      by_cases e : j = k + 1
      · subst e; exact Tm.lt_irrefl _
      · exact fun q => h2 j (by omega) (Tm.lt_trans q hlt)
    · rw [if_neg hb]
      refine ⟨⟨j0, by omega, e0⟩, fun j hj => ?_⟩
      by_cases e : j = k + 1
      · subst e; exact fun q => hb (decide_eq_true ((cmpT_lt _ _).2 q))
      · exact h2 j (by omega)
theorem sortWorld_self {α : Type} [Inhabited α] {enc : α → Value} {w : World} {g off n : Nat} {os : Array Obj} {d : Array α} (h : Holds enc w g off d) : Kept (fun _ => False) w (sortWorld enc w g off n d os) := by
  have e : sortWorld enc w g off n d os = grow (Sort.ahead w n) os := by
    unfold sortWorld
    rw [putRow_self enc (Sort.ahead w n) g off d h]
  rw [e]
  exact ⟨rfl, rfl, rfl, by simp [Sort.ahead], fun k hk _ => by rw [heap_grow_old _ _ (by simpa [Sort.ahead] using hk)]; rfl⟩
def MinPost (w : World) (l : List Pt) (e : Ending) (w' : World) : Prop := ∃ t ∈ l, e = .returned (ptr t) ∧ (∀ u ∈ l, ¬ u.x.lt t.x) ∧ Kept (fun _ => False) w w'
theorem minP_c {w : World} {base : Nat} {v : Value} (l : List Pt) (hl : l.length ≤ 1000000) (hne : l ≠ []) (hown : w.ownsRow base 90 1 v l.length (l.map ptr)) (hk : ∀ t ∈ l, TmKey w t ∧ v.ownBlock ≠ some t.b) :
    Calls Tryd.prog 52 #[v, .func (.func 46) #[] #[]] w (MinPost w l) := by
  obtain ⟨t0, ht0⟩ := List.exists_mem_of_ne_nil l hne
  have hpos : 0 < l.length := List.length_pos_of_mem ht0
  rcases hown.2 with ⟨rfl, h0⟩ | ⟨g, cap, cur, rfl, hg, hh, h1, h2, h3, h4⟩
  · omega
  · have hbl : g < w.heap.size := (Array.getElem?_eq_some_iff.1 hh).1
    have hk' : ∀ t ∈ l, TmKey w t ∧ t.b ≠ g := fun t ht => ⟨(hk t ht).1, fun e => (hk t ht).2 (by rw [e]; rfl)⟩
    haveI : Inhabited (PtW w g) := ⟨⟨t0, hk' t0 ht0⟩⟩
    have hH := lift_holds hown hk'
    have hsz : (lift l hk').toArray.size = l.length := by simp [lift_length]
    have hc := Any.slices_MinFunc_p Tryd.minP encP encP_one cmpP 46 #[] g 0 cap (lift l hk').toArray w eg46 (before_lays 0 _) hH hbl (by rw [hsz]; omega) (by rw [hsz]; omega)
    rw [hsz] at hc
    refine Calls.mono hc ?_
    rintro e w' ⟨rfl, n, os, rfl⟩
    obtain ⟨⟨j, hj, e⟩, hm⟩ := pick_spec (lift l hk').toArray (l.length - 1) (by rw [hsz]; omega)
    rw [e] at hm ⊢
    have hjl : j < (lift l hk').length := by rw [lift_length]; omega
    have hget : ∀ i (hi : i < (lift l hk').length), (lift l hk').toArray[i]! = (lift l hk')[i] := fun i hi => by rw [getElem!_pos _ i (by simpa using hi)]; simp
    refine ⟨((lift l hk').toArray[j]!).1, ?_, rfl, fun u hu => ?_, sortWorld_self hH⟩
    · rw [hget j hjl]
      exact List.mem_of_getElem? (lift_get hk' hjl)
    · obtain ⟨i, hi⟩ := List.getElem?_of_mem hu
      have hil : i < (lift l hk').length := by rw [lift_length]; exact (List.getElem?_eq_some_iff.1 hi).1
      have h5 := lift_get hk' hil
      rw [hi] at h5
      injection h5 with h5
      have := hm i (by rw [lift_length] at hil; omega)
      rw [hget i hil, ← h5] at this
      exact this
end Go.Proofs.YtjlcchjcppkbjaaDoor
