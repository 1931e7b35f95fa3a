/- ArenaOnce: what the abstract arena does along the law's steps. No program in sight. -/
import Derived.Test.YtokmjjjedljcpaaArCopies
namespace Go.Proofs.Ytokmjjjedljcpaa

/-- How many slots are taken. -/
def cnt (n : Nat) (f : Nat → U) : Nat := (List.range n).countP fun x => (f x).taken
theorem cnt_succ (n : Nat) (f : Nat → U) : cnt (n + 1) f = cnt n f + if (f n).taken then 1 else 0 := by
  simp [cnt, List.range_succ, List.countP_append, List.countP_singleton]
theorem cnt_le (n : Nat) (f : Nat → U) : cnt n f ≤ n := by
  have := List.countP_le_length (p := fun x => (f x).taken) (l := List.range n)
  simpa [cnt] using this
theorem cnt_same {n : Nat} {f : Nat → U} {k : Nat} {u : U} (h : n ≤ k) : cnt n (updU f k u) = cnt n f := by
  induction n with
  | zero => rfl
  | succ n ih => rw [cnt_succ, cnt_succ, ih (by omega), updU_ne _ _ (by omega)]
theorem cnt_upd {n : Nat} {f : Nat → U} {k : Nat} (u : U) (h : k < n) : cnt n (updU f k u) + (if (f k).taken then 1 else 0) = cnt n f + if u.taken then 1 else 0 := by
  induction n with
  | zero => omega
  | succ n ih =>
    rw [cnt_succ, cnt_succ]
    by_cases e : k = n
    · subst e; rw [cnt_same (Nat.le_refl _), updU_at]; omega
    · have := ih (by omega)
      rw [updU_ne _ _ (by omega)]; omega
theorem cnt_all {n : Nat} {f : Nat → U} (h : ∀ k, k < n → (f k).taken = true) : cnt n f = n := by
  induction n with
  | zero => rfl
  | succ n ih => rw [cnt_succ, ih (fun k hk => h k (by omega)), h n (by omega)]; rfl
theorem cnt_lt {n : Nat} {f : Nat → U} {k : Nat} (hk : k < n) (h : (f k).taken = false) : cnt n f < n := by
  have := cnt_upd (f := f) { use := 0, taken := true, v := 0 } hk
  have := cnt_le n (updU f k { use := 0, taken := true, v := 0 })
  simp_all
  omega

def updB (lv : Nat → Bool) (j : Nat) (b : Bool) : Nat → Bool := fun x => if x = j then b else lv x
theorem updB_at (lv : Nat → Bool) (j : Nat) (b : Bool) : updB lv j b j = b := if_pos rfl
theorem updB_ne (lv : Nat → Bool) {j x : Nat} (b : Bool) (h : x ≠ j) : updB lv j b x = lv x := if_neg h

structure OI (n i m : Nat) (f : Nat → U) (fl : List Nat) (G : List Int) (lv : Nat → Bool) : Prop where
  inl : ∀ k ∈ fl, k < m ∧ (f k).taken = false
  nodup : fl.Nodup
  mn : m ≤ n
  old : ∀ k, k < m → 1 ≤ (f k).use ∧ (f k).use ≤ i
  new : ∀ k, m ≤ k → (f k).use = 0 ∧ (f k).taken = false
  all : ∀ k, k < m → (f k).taken = false → k ∈ fl
  g : ∀ j h, G[j]? = some h → ∃ (u : Int) (k : Nat), h = 4096 * u + k ∧ k < n ∧ 1 ≤ u ∧ u ≤ (f k).use ∧ lv j = ((f k).taken && decide ((f k).use = u))
  lt : G.length ≤ i
  lv0 : ∀ j, G.length ≤ j → lv j = false
  gn : G.Nodup
  gt : ∀ k, (f k).taken = true → 4096 * (f k).use + (k : Int) ∈ G

theorem OI.start (n : Nat) : OI n 0 0 (fun _ => { use := 0, taken := false, v := 0 }) [] [] (fun _ => false) where
  inl := fun k h => by cases h
  nodup := List.nodup_nil
  mn := Nat.zero_le _
  old := fun k h => by omega
  new := fun k _ => ⟨rfl, rfl⟩
  all := fun k h => by omega
  g := fun j h hh => by cases hh
  lt := Nat.le_refl _
  lv0 := fun _ _ => rfl
  gn := List.nodup_nil
  gt := fun k h => by cases h

variable {n i m : Nat} {f : Nat → U} {fl : List Nat} {G : List Int} {lv : Nat → Bool}

theorem OI.more (O : OI n i m f fl G lv) : OI n (i + 1) m f fl G lv :=
  { O with old := fun k hk => by have := O.old k hk; omega, lt := by have := O.lt; omega }

theorem OI.use (O : OI n i m f fl G lv) (k : Nat) : 0 ≤ (f k).use ∧ (f k).use ≤ i := by
  by_cases h : k < m
  · have := O.old k h; omega
  · have := O.new k (by omega); omega
theorem OI.tk (O : OI n i m f fl G lv) {k : Nat} (h : (f k).taken = true) : k < m := by
  by_cases hk : k < m
  · exact hk
  · have := (O.new k (by omega)).2; rw [h] at this; cases this

/-- A handle newly given. -/
theorem OI.give (O : OI n i m f fl G lv) (hn : n ≤ 4096) {k m' : Nat} {fl' : List Nat} (v : Int) (hk : k < n) (ht : (f k).taken = false) (hm : m' ≤ n) (hmm : m ≤ m') (hkm : k < m')
    (h1 : ∀ x, x < m' → x ≠ k → x < m) (hfl : ∀ x ∈ fl', x ∈ fl ∧ x ≠ k) (hnd : fl'.Nodup) (hfb : ∀ x ∈ fl, x ≠ k → x ∈ fl') :
    4096 * ((f k).use + 1) + (k : Int) ∉ G ∧ OI n (i + 1) m' (updU f k { use := (f k).use + 1, taken := true, v := v }) fl' (G ++ [4096 * ((f k).use + 1) + (k : Int)]) (updB lv G.length true) := by
  have hnew : 4096 * ((f k).use + 1) + (k : Int) ∉ G := fun hg => by
    obtain ⟨j, hj⟩ := List.getElem?_of_mem hg
    obtain ⟨u, k', e, hk', hu, hu', -⟩ := O.g j _ hj
    have : k' = k := by omega
    subst this; omega
  refine ⟨hnew, ?_⟩
  refine { inl := ?_, nodup := hnd, mn := hm, old := ?_, new := ?_, all := ?_, g := ?_, lt := ?_, lv0 := ?_, gn := ?_, gt := ?_ }
  · intro x hx
    have := hfl x hx
    rw [updU_ne _ _ this.2]
    have q := O.inl x this.1
    exact ⟨by omega, q.2⟩
  · intro x hx
    by_cases e : x = k
    · subst e; rw [updU_at]; have := O.use x; exact ⟨by simp only; omega, by simp only; omega⟩
    · rw [updU_ne _ _ e]; have := O.old x (h1 x hx e); omega
  · intro x hx
    rw [updU_ne _ _ (by omega)]; exact O.new x (by omega)
  · intro x hx ht'
    by_cases e : x = k
    · subst e; rw [updU_at] at ht'; cases ht'
    · rw [updU_ne _ _ e] at ht'; exact hfb x (O.all x (h1 x hx e) ht') e
  · intro j h hh
    by_cases e : j < G.length
    · rw [List.getElem?_append_left e] at hh
      obtain ⟨u, k', e1, hk', hu, hu', hl⟩ := O.g j h hh
      refine ⟨u, k', e1, hk', hu, ?_, ?_⟩
      · by_cases e2 : k' = k
        · subst e2; rw [updU_at]; simp only; omega
        · rw [updU_ne _ _ e2]; exact hu'
      · rw [updB_ne _ _ (by omega), hl]
        by_cases e2 : k' = k
        · subst e2; rw [updU_at, ht]
          have : ¬ (f k').use + 1 = u := by omega
          simp [this]
        · rw [updU_ne _ _ e2]
    · have hj : j = G.length := by
        have := (List.getElem?_eq_some_iff.1 hh).1
        simp at this; omega
      subst hj
      rw [List.getElem?_append_right (Nat.le_refl _)] at hh
      simp at hh
      subst hh
      refine ⟨(f k).use + 1, k, rfl, hk, by have := O.use k; omega, by rw [updU_at]; simp, by rw [updU_at, updB_at]; simp⟩
  · have := O.lt; simp; omega
  · intro j hj
    simp at hj
    rw [updB_ne _ _ (by omega)]; exact O.lv0 j (by omega)
  · refine List.nodup_append.2 ⟨O.gn, by simp, ?_⟩
    intro a ha b hb
    simp at hb
    subst hb
    exact fun e => hnew (e ▸ ha)
  · intro x hx
    by_cases e : x = k
    · subst e; rw [updU_at]; simp
    · rw [updU_ne _ _ e] at hx ⊢; exact List.mem_append_left _ (O.gt x hx)

theorem OI.put (O : OI n i m f fl G lv) (hn : n ≤ 4096) (hi : i ≤ 1000000) (v : Int) :
    (cnt n f = n ∧ (AA.of n f fl).put v = (AA.of n f fl, 0, 4)) ∨
    (cnt n f < n ∧ ∃ f' fl' m' h, (AA.of n f fl).put v = (AA.of n f' fl', h, 0) ∧ h ∉ G ∧ 4096 ≤ h ∧ h ≤ 8192000000 ∧ h % 4096 < n ∧ cnt n f' = cnt n f + 1 ∧ OI n (i + 1) m' f' fl' (G ++ [h]) (updB lv G.length true)) := by
  cases fl with
  | cons k r =>
    have hk := O.inl k List.mem_cons_self
    have hkn : k < n := by have := O.mn; omega
    have hu := O.use k
    have nd := List.nodup_cons.1 O.nodup
    refine .inr ⟨cnt_lt hkn hk.2, _, _, m, _, AA.put_pop v hkn, ?_⟩
    obtain ⟨q1, q2⟩ := O.give (m' := m) (fl' := r) hn v hkn hk.2 O.mn (Nat.le_refl _) hk.1 (fun x hx _ => hx) (fun x hx => ⟨List.mem_cons_of_mem _ hx, fun e => nd.1 (e ▸ hx)⟩) nd.2
      (fun x hx e => by rcases List.mem_cons.1 hx with h | h; exact absurd h e; exact h)
    refine ⟨q1, by omega, by omega, by omega, ?_, q2⟩
    have := cnt_upd (f := f) { use := (f k).use + 1, taken := true, v := v } hkn
    rw [hk.2] at this
    simpa using this
  | nil =>
    have hall : ∀ x, x < m → (f x).taken = true := fun x hx => by
      cases e : (f x).taken with
      | true => rfl
      | false => have := O.all x hx e; cases this
    by_cases hm : m < n
    · have hk := O.new m (Nat.le_refl _)
      refine .inr ⟨cnt_lt hm hk.2, updU f m { use := 1, taken := true, v := v }, [], m + 1, _, AA.put_new v hm (fun x hx => by have := O.old x hx; omega) hk.1, ?_⟩
      obtain ⟨q1, q2⟩ := O.give (m' := m + 1) (fl' := []) hn v hm hk.2 (by omega) (by omega) (by omega) (fun x hx e => by omega) (fun x hx => by cases hx) List.nodup_nil (fun x hx => by cases hx)
      rw [hk.1] at q1 q2
      simp only [Int.zero_add, Int.mul_one] at q1 q2
      refine ⟨q1, by omega, by omega, by omega, ?_, q2⟩
      have := cnt_upd (f := f) { use := 1, taken := true, v := v } hm
      rw [hk.2] at this
      simpa using this
    · have : m = n := by have := O.mn; omega
      subst this
      exact .inl ⟨cnt_all hall, AA.put_full v (fun x hx => by have := O.old x hx; omega)⟩

theorem OI.room (O : OI n i m f fl G lv) (hi : i ≤ 1000000) : (AA.of n f fl).len = cnt n f ∧ (AA.of n f fl).room = n - cnt n f := by
  refine ⟨AA.len_of _ _ _, ?_⟩
  rw [AA.room_of]
  have e : (List.range n).countP (fun x => !(f x).taken && (f x).use != 2147483648) = (List.range n).countP (fun x => !(f x).taken) := by
    apply List.countP_congr
    intro x _
    have : (f x).use ≠ 2147483648 := by have := O.use x; omega
    simp [this]
  rw [e]
  have := List.length_eq_countP_add_countP (fun x => (f x).taken) (l := List.range n)
  simp only [List.length_range] at this
  unfold cnt
  have e2 : (List.range n).countP (fun x => !(f x).taken) = (List.range n).countP (fun a => decide ¬(f a).taken = true) := by
    apply List.countP_congr; intro x _; simp
  omega

theorem OI.get (O : OI n i m f fl G lv) (hn : n ≤ 4096) {j : Nat} {h : Int} (hj : G[j]? = some h) : ∃ v, (AA.of n f fl).get h = (v, lv j) ∧ (lv j = false → v = 0) := by
  obtain ⟨u, k, e, hk, hu, -, hl⟩ := O.g j h hj
  rw [AA.get_of u k e hn hk hu, hl]
  by_cases c : (f k).taken = true ∧ (f k).use = u
  · rw [if_pos c]; exact ⟨(f k).v, by simp [c.1, c.2], by simp [c.1, c.2]⟩
  · rw [if_neg c]
    refine ⟨0, ?_, fun _ => rfl⟩
    congr 1
    simpa using c

theorem OI.bound (O : OI n i m f fl G lv) (hn : n ≤ 4096) (hi : i ≤ 1000000) {j : Nat} {h : Int} (hj : G[j]? = some h) : 4096 ≤ h ∧ h ≤ 8192000000 := by
  obtain ⟨u, k, e, hk, hu, hu', hl⟩ := O.g j h hj
  have := O.use k
  omega

theorem OI.free (O : OI n i m f fl G lv) (hn : n ≤ 4096) (hi : i ≤ 1000000) {j : Nat} {h : Int} (hj : G[j]? = some h) :
    (lv j = false ∧ (AA.of n f fl).free h = (AA.of n f fl, 5)) ∨
    (lv j = true ∧ ∃ f' fl', (AA.of n f fl).free h = (AA.of n f' fl', 0) ∧ cnt n f = cnt n f' + 1 ∧ OI n i m f' fl' G (updB lv j false)) := by
  obtain ⟨u, k, e, hk, hu, hu', hl⟩ := O.g j h hj
  have hub := O.use k
  rw [AA.free_of u k e hn hk hu (by omega), hl]
  by_cases c : (f k).taken = true ∧ (f k).use = u
  · rw [if_pos c]
    refine .inr ⟨by simp [c.1, c.2], _, _, rfl, ?_, ?_⟩
    · have := cnt_upd (f := f) { f k with taken := false } hk
      rw [c.1] at this
      simpa using this.symm
    · have hkm := O.tk c.1
      refine { inl := ?_, nodup := ?_, mn := O.mn, old := ?_, new := ?_, all := ?_, g := ?_, lt := O.lt, lv0 := ?_, gn := O.gn, gt := ?_ }
      · intro x hx
        rcases List.mem_cons.1 hx with e | hx
        · subst e; rw [updU_at]; exact ⟨hkm, rfl⟩
        · have q := O.inl x hx
          have : x ≠ k := fun e => by subst e; rw [c.1] at q; cases q.2
          rw [updU_ne _ _ this]; exact q
      · exact List.nodup_cons.2 ⟨fun hx => (by have := (O.inl k hx).2; rw [c.1] at this; cases this), O.nodup⟩
      · intro x hx
        by_cases e : x = k
        · subst e; rw [updU_at]; exact O.old x hx
        · rw [updU_ne _ _ e]; exact O.old x hx
      · intro x hx
        rw [updU_ne _ _ (by omega)]; exact O.new x hx
      · intro x hx ht
        by_cases e : x = k
        · subst e; exact List.mem_cons_self
        · rw [updU_ne _ _ e] at ht; exact List.mem_cons_of_mem _ (O.all x hx ht)
      · intro j' h' hj'
        obtain ⟨u', k', e', hk', hu1, hu2, hl'⟩ := O.g j' h' hj'
        refine ⟨u', k', e', hk', hu1, ?_, ?_⟩
        · by_cases q : k' = k
          · subst q; rw [updU_at]; exact hu2
          · rw [updU_ne _ _ q]; exact hu2
        · by_cases q : k' = k
          · subst q
            rw [updU_at]
            simp only [Bool.false_and]
            by_cases qq : j' = j
            · subst qq; rw [updB_at]
            · rw [updB_ne _ _ qq, hl', c.1]
              simp only [Bool.true_and, decide_eq_false_iff_not]
              intro q2
              have : h' = h := by rw [e', e, ← q2, c.2]
              subst this
              have l1 := (List.getElem?_eq_some_iff.1 hj').1
              have l2 := (List.getElem?_eq_some_iff.1 hj).1
              exact qq ((List.getElem_inj O.gn).1 (by rw [(List.getElem?_eq_some_iff.1 hj').2, (List.getElem?_eq_some_iff.1 hj).2]))
          · rw [updU_ne _ _ q]
            have : j' ≠ j := fun qq => by
              subst qq
              rw [hj'] at hj
              injection hj with hj
              omega
            rw [updB_ne _ _ this]; exact hl'
      · intro x hx
        by_cases q : x = j
        · subst q; rw [updB_at]
        · rw [updB_ne _ _ q]; exact O.lv0 x hx
      · intro x hx
        by_cases q : x = k
        · subst q; rw [updU_at] at hx; cases hx
        · rw [updU_ne _ _ q] at hx ⊢; exact O.gt x hx
  · rw [if_neg c]
    exact .inl ⟨by simpa using c, rfl⟩

/-- The handles that were not freed, among the first k. -/
def wt (G : List Int) (lv : Nat → Bool) : Nat → List Int
  | 0 => []
  | k + 1 => if lv k then wt G lv k ++ [G.getD k 0] else wt G lv k
theorem wt_length (G : List Int) (lv : Nat → Bool) (k : Nat) : (wt G lv k).length ≤ k := by
  induction k with
  | zero => simp [wt]
  | succ k ih => unfold wt; split <;> (try simp) <;> omega
theorem wt_mem {k : Nat} (hk : k ≤ G.length) (x : Int) : x ∈ wt G lv k ↔ ∃ j, j < k ∧ lv j = true ∧ G[j]? = some x := by
  induction k with
  | zero => simp [wt]
  | succ k ih =>
    have ih := ih (by omega)
    have hg : G[k]? = some (G.getD k 0) := by rw [List.getD_eq_getElem?_getD, List.getElem?_eq_getElem (by omega)]; rfl
    unfold wt
    split
    · rename_i hl
      rw [List.mem_append, ih, List.mem_singleton]
      constructor
      · rintro (⟨j, h1, h2, h3⟩ | h)
        · exact ⟨j, by omega, h2, h3⟩
        · exact ⟨k, by omega, hl, by rw [h, hg]⟩
      · rintro ⟨j, h1, h2, h3⟩
        by_cases e : j = k
        · subst e; rw [hg] at h3; exact .inr (Option.some.inj h3).symm
        · exact .inl ⟨j, by omega, h2, h3⟩
    · rename_i hl
      rw [ih]
      constructor
      · rintro ⟨j, h1, h2, h3⟩; exact ⟨j, by omega, h2, h3⟩
      · rintro ⟨j, h1, h2, h3⟩
        by_cases e : j = k
        · subst e; exact absurd h2 hl
        · exact ⟨j, by omega, h2, h3⟩
theorem wt_nodup (hn : G.Nodup) {k : Nat} (hk : k ≤ G.length) : (wt G lv k).Nodup := by
  induction k with
  | zero => exact List.nodup_nil
  | succ k ih =>
    have ih := ih (by omega)
    unfold wt
    split
    · refine List.nodup_append.2 ⟨ih, by simp, ?_⟩
      intro a ha b hb
      simp at hb
      subst hb
      intro e
      obtain ⟨j, h1, h2, h3⟩ := (wt_mem (by omega) a).1 ha
      obtain ⟨l1, l2⟩ := List.getElem?_eq_some_iff.1 h3
      have : G[j] = G[k] := by rw [l2, e]; simp [List.getElem?_eq_getElem (show k < G.length by omega)]
      have := (List.getElem_inj hn).1 this
      omega
    · exact ih

theorem live_of (n : Nat) (f : Nat → U) (fl : List Nat) : (AA.of n f fl).live = ((List.range n).filter fun j => (f j).taken).map fun j => 4096 * (f j).use + (j : Int) := by
  unfold AA.live
  rw [upto_of]
  apply List.map_congr_left
  intro x hx
  have hx := List.mem_range.1 (List.mem_filter.1 hx).1
  unfold AA.hnd
  rw [AA.of_get, if_pos hx]

theorem OI.live (O : OI n i m f fl G lv) (hn : n ≤ 4096) (d : List Int) (hp : d.Perm (wt G lv G.length)) (hs : d.Pairwise fun x y => x % 4096 ≤ y % 4096) : (AA.of n f fl).live = d := by
  rw [live_of]
  have hmem : ∀ x, x ∈ ((List.range n).filter fun j => (f j).taken).map (fun j => 4096 * (f j).use + (j : Int)) ↔ x ∈ wt G lv G.length := by
    intro x
    rw [wt_mem (Nat.le_refl _)]
    constructor
    · intro hx
      obtain ⟨k, hk, rfl⟩ := List.mem_map.1 hx
      obtain ⟨hk1, hk2⟩ := List.mem_filter.1 hk
      have hk1 := List.mem_range.1 hk1
      obtain ⟨j, hj⟩ := List.getElem?_of_mem (O.gt k hk2)
      obtain ⟨u, k', e, hk', hu, hu', hl⟩ := O.g j _ hj
      have : k' = k := by omega
      subst this
      have : u = (f k').use := by omega
      subst this
      exact ⟨j, (List.getElem?_eq_some_iff.1 hj).1, by rw [hl, hk2]; simp, hj⟩
    · rintro ⟨j, h1, h2, h3⟩
      obtain ⟨u, k', e, hk', hu, hu', hl⟩ := O.g j _ h3
      rw [h2] at hl
      simp at hl
      exact List.mem_map.2 ⟨k', List.mem_filter.2 ⟨List.mem_range.2 hk', hl.1⟩, by rw [hl.2, e]⟩
  have hpw : (((List.range n).filter fun j => (f j).taken).map (fun j => 4096 * (f j).use + (j : Int))).Pairwise (fun x y => x % 4096 < y % 4096) := by
    rw [List.pairwise_map]
    have hr : ((List.range n).filter fun j => (f j).taken).Pairwise (· < ·) := List.Pairwise.sublist List.filter_sublist List.pairwise_lt_range
    refine List.Pairwise.imp_of_mem ?_ hr
    intro a b ha hb hab
    have ha := List.mem_range.1 (List.mem_filter.1 ha).1
    have hb := List.mem_range.1 (List.mem_filter.1 hb).1
    omega
  have hperm : (((List.range n).filter fun j => (f j).taken).map (fun j => 4096 * (f j).use + (j : Int))).Perm d := by
    refine List.Perm.trans ?_ hp.symm
    refine (List.perm_ext_iff_of_nodup ?_ (wt_nodup O.gn (Nat.le_refl _))).2 hmem
    exact hpw.imp fun h e => by subst e; omega
  refine List.Perm.eq_of_pairwise (le := fun x y => x % 4096 ≤ y % 4096) ?_ (hpw.imp fun h => by omega) hs hperm
  intro a b ha hb h1 h2
  have hb := hperm.mem_iff.2 hb
  obtain ⟨k, hk, rfl⟩ := List.mem_map.1 ha
  obtain ⟨k', hk', rfl⟩ := List.mem_map.1 hb
  have ha := List.mem_range.1 (List.mem_filter.1 hk).1
  have hb := List.mem_range.1 (List.mem_filter.1 hk').1
  have : k = k' := by omega
  rw [this]
end Go.Proofs.Ytokmjjjedljcpaa
