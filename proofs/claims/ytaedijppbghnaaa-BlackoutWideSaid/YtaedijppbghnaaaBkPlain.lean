/- Lists of spans: the plain law. -/
namespace Go.Proofs.Ytaedijppbghnaaa.Bk

abbrev Sp := Int × Int
def has (l : List Sp) (t : Int) : Bool := l.any fun s => decide (s.1 ≤ t) && decide (t ≤ s.2)
theorem has_nil (t : Int) : has [] t = false := rfl
theorem has_cons (s : Sp) (l : List Sp) (t : Int) : has (s :: l) t = ((decide (s.1 ≤ t) && decide (t ≤ s.2)) || has l t) := rfl
theorem has_append (l m : List Sp) (t : Int) : has (l ++ m) t = (has l t || has m t) := by simp [has, List.any_append]
theorem has_iff {l : List Sp} {t : Int} : has l t = true ↔ ∃ s ∈ l, s.1 ≤ t ∧ t ≤ s.2 := by
  simp [has, List.any_eq_true]
theorem has_false {l : List Sp} {t : Int} : has l t = false ↔ ∀ s ∈ l, ¬ (s.1 ≤ t ∧ t ≤ s.2) := by
  rw [← Bool.not_eq_true, has_iff]
  exact ⟨fun h s hs hq => h ⟨s, hs, hq⟩, fun h ⟨s, hs, hq⟩ => h s hs hq⟩
theorem has_perm {l m : List Sp} (h : l.Perm m) (t : Int) : has l t = has m t := by
  rw [Bool.eq_iff_iff, has_iff, has_iff]
  exact ⟨fun ⟨s, hs, q⟩ => ⟨s, h.mem_iff.1 hs, q⟩, fun ⟨s, hs, q⟩ => ⟨s, h.mem_iff.2 hs, q⟩⟩

structure Norm (l : List Sp) : Prop where
  le : ∀ x ∈ l, x.1 ≤ x.2
  gap : l.Pairwise fun x y => x.2 + 2 ≤ y.1
theorem Norm.nil : Norm [] := ⟨by simp, .nil⟩
theorem Norm.tail {x : Sp} {l : List Sp} (h : Norm (x :: l)) : Norm l := ⟨fun y hy => h.le y (.tail _ hy), (List.pairwise_cons.1 h.gap).2⟩
theorem Norm.cons {x : Sp} {l : List Sp} (hx : x.1 ≤ x.2) (hg : ∀ y ∈ l, x.2 + 2 ≤ y.1) (h : Norm l) : Norm (x :: l) :=
  ⟨fun y hy => (List.mem_cons.1 hy).elim (fun e => e ▸ hx) (h.le y), List.pairwise_cons.2 ⟨hg, h.gap⟩⟩
theorem Norm.head {x : Sp} {l : List Sp} (h : Norm (x :: l)) : x.1 ≤ x.2 ∧ ∀ y ∈ l, x.2 + 2 ≤ y.1 := ⟨h.le x (.head _), (List.pairwise_cons.1 h.gap).1⟩
theorem Norm.off {x : Sp} {l : List Sp} (h : Norm (x :: l)) {t : Int} (ht : t ≤ x.2 + 1) : has l t = false :=
  has_false.2 fun s hs => by have := h.head.2 s hs; omega

theorem norm_head_le {x y : Sp} {l m : List Sp} (hl : Norm (x :: l)) (hm : Norm (y :: m)) (h : ∀ t, has (x :: l) t = has (y :: m) t) : y.1 ≤ x.1 := by
  have hx : has (x :: l) x.1 = true := has_iff.2 ⟨x, .head _, Int.le_refl _, hl.head.1⟩
  rw [h, has_iff] at hx
  obtain ⟨s, hs, h1, h2⟩ := hx
  rcases List.mem_cons.1 hs with rfl | hs
  · exact h1
  · have := hm.head.2 s hs
    have := hm.head.1
    omega
theorem norm_head_end {x y : Sp} {l m : List Sp} (hl : Norm (x :: l)) (h : ∀ t, has (x :: l) t = has (y :: m) t) (e : x.1 = y.1) : y.2 ≤ x.2 := by
  apply Int.not_lt.1
  intro hlt
  have hy : has (y :: m) (x.2 + 1) = true := has_iff.2 ⟨y, .head _, by have := hl.head.1; omega, by omega⟩
  rw [← h, has_cons, hl.off (Int.le_refl _)] at hy
  simp at hy
  omega
theorem norm_unique : ∀ {l m : List Sp}, Norm l → Norm m → (∀ t, has l t = has m t) → l = m
  | [], [], _, _, _ => rfl
  | [], y :: m, _, hm, h => by
    have : has (y :: m) y.1 = true := has_iff.2 ⟨y, .head _, Int.le_refl _, hm.head.1⟩
    rw [← h] at this
    cases this
  | x :: l, [], hl, _, h => by
    have : has (x :: l) x.1 = true := has_iff.2 ⟨x, .head _, Int.le_refl _, hl.head.1⟩
    rw [h] at this
    cases this
  | x :: l, y :: m, hl, hm, h => by
    have e1 : x.1 = y.1 := Int.le_antisymm (norm_head_le hm hl fun t => (h t).symm) (norm_head_le hl hm h)
    have e2 : x.2 = y.2 := Int.le_antisymm (norm_head_end hm (fun t => (h t).symm) e1.symm) (norm_head_end hl h e1)
    have e : x = y := Prod.ext e1 e2
    subst e
    congr 1
    refine norm_unique hl.tail hm.tail fun t => ?_
    by_cases ht : t ≤ x.2 + 1
    · rw [hl.off ht, hm.off ht]
    · have := h t
      rw [has_cons, has_cons] at this
      have hf : decide (t ≤ x.2) = false := by simp; omega
      simpa [hf] using this

/-! Events. -/
/-- An event: its time, and what is added to the counts. -/
abbrev Ev := Int × Int × Int
def cnt0 (l : List Ev) (t : Int) : Int := ((l.filter fun e => decide (e.1 ≤ t)).map fun e => e.2.1).sum
def cnt1 (l : List Ev) (t : Int) : Int := ((l.filter fun e => decide (e.1 ≤ t)).map fun e => e.2.2).sum
theorem cnt0_nil (t : Int) : cnt0 [] t = 0 := rfl
theorem cnt1_nil (t : Int) : cnt1 [] t = 0 := rfl
theorem cnt0_cons (e : Ev) (l : List Ev) (t : Int) : cnt0 (e :: l) t = (if e.1 ≤ t then e.2.1 else 0) + cnt0 l t := by
  unfold cnt0
  by_cases h : e.1 ≤ t <;> simp [h]
theorem cnt1_cons (e : Ev) (l : List Ev) (t : Int) : cnt1 (e :: l) t = (if e.1 ≤ t then e.2.2 else 0) + cnt1 l t := by
  unfold cnt1
  by_cases h : e.1 ≤ t <;> simp [h]
theorem cnt0_append (l m : List Ev) (t : Int) : cnt0 (l ++ m) t = cnt0 l t + cnt0 m t := by
  induction l with
  | nil => simp [cnt0_nil]
  | cons e l ih => rw [List.cons_append, cnt0_cons, cnt0_cons, ih]; omega
theorem cnt1_append (l m : List Ev) (t : Int) : cnt1 (l ++ m) t = cnt1 l t + cnt1 m t := by
  induction l with
  | nil => simp [cnt1_nil]
  | cons e l ih => rw [List.cons_append, cnt1_cons, cnt1_cons, ih]; omega
theorem cnt0_perm {l m : List Ev} (h : l.Perm m) (t : Int) : cnt0 l t = cnt0 m t := by
  induction h with
  | nil => rfl
  | cons x _ ih => rw [cnt0_cons, cnt0_cons, ih]
  | swap x y l => simp only [cnt0_cons]; omega
  | trans _ _ i j => exact i.trans j
theorem cnt1_perm {l m : List Ev} (h : l.Perm m) (t : Int) : cnt1 l t = cnt1 m t := by
  induction h with
  | nil => rfl
  | cons x _ ih => rw [cnt1_cons, cnt1_cons, ih]
  | swap x y l => simp only [cnt1_cons]; omega
  | trans _ _ i j => exact i.trans j

def ev0 (l : List Sp) : List Ev := l.flatMap fun s => [(s.1, 1, 0), (s.2 + 1, -1, 0)]
def ev1 (l : List Sp) : List Ev := l.flatMap fun s => [(s.1, 0, 1), (s.2 + 1, 0, -1)]
def evs (a b : List Sp) : List Ev := ev0 a ++ ev1 b
theorem ev0_cons (s : Sp) (l : List Sp) : ev0 (s :: l) = (s.1, 1, 0) :: (s.2 + 1, -1, 0) :: ev0 l := rfl
theorem ev1_cons (s : Sp) (l : List Sp) : ev1 (s :: l) = (s.1, 0, 1) :: (s.2 + 1, 0, -1) :: ev1 l := rfl
theorem cnt_ev0 {l : List Sp} (h : ∀ x ∈ l, x.1 ≤ x.2) (t : Int) : 0 ≤ cnt0 (ev0 l) t ∧ (0 < cnt0 (ev0 l) t ↔ has l t = true) ∧ cnt1 (ev0 l) t = 0 := by
  induction l with
  | nil => simp [ev0, cnt0_nil, cnt1_nil, has_nil]
  | cons s l ih =>
    obtain ⟨h0, h1, h2⟩ := ih fun x hx => h x (.tail _ hx)
    have hs := h s (.head _)
    rw [ev0_cons, cnt0_cons, cnt0_cons, cnt1_cons, cnt1_cons, has_cons, h2, Bool.or_eq_true, ← h1]
    simp only [Bool.and_eq_true, decide_eq_true_eq]
    refine ⟨?_, ?_, ?_⟩
    · split <;> split <;> omega
    · constructor
      · intro hp
        by_cases q : s.1 ≤ t ∧ t ≤ s.2
        · exact .inl q
        · right
          rcases Classical.em (s.1 ≤ t) with p | p <;> rcases Classical.em (s.2 + 1 ≤ t) with r | r <;> simp only [p, r, if_true, if_false] at hp <;> omega
      · intro hp
        rcases hp with ⟨p, q⟩ | hp
        · rw [if_pos p, if_neg (by omega)]; omega
        · split <;> split <;> omega
    · split <;> split <;> rfl
theorem cnt_ev1 {l : List Sp} (h : ∀ x ∈ l, x.1 ≤ x.2) (t : Int) : 0 ≤ cnt1 (ev1 l) t ∧ (0 < cnt1 (ev1 l) t ↔ has l t = true) ∧ cnt0 (ev1 l) t = 0 := by
  induction l with
  | nil => simp [ev1, cnt0_nil, cnt1_nil, has_nil]
  | cons s l ih =>
    obtain ⟨h0, h1, h2⟩ := ih fun x hx => h x (.tail _ hx)
    have hs := h s (.head _)
    rw [ev1_cons, cnt1_cons, cnt1_cons, cnt0_cons, cnt0_cons, has_cons, h2, Bool.or_eq_true, ← h1]
    simp only [Bool.and_eq_true, decide_eq_true_eq]
    refine ⟨?_, ?_, ?_⟩
    · split <;> split <;> omega
    · constructor
      · intro hp
        by_cases q : s.1 ≤ t ∧ t ≤ s.2
        · exact .inl q
        · right
          rcases Classical.em (s.1 ≤ t) with p | p <;> rcases Classical.em (s.2 + 1 ≤ t) with r | r <;> simp only [p, r, if_true, if_false] at hp <;> omega
      · intro hp
        rcases hp with ⟨p, q⟩ | hp
        · rw [if_pos p, if_neg (by omega)]; omega
        · split <;> split <;> omega
    · split <;> split <;> rfl
theorem cnt_evs {a b : List Sp} (ha : ∀ x ∈ a, x.1 ≤ x.2) (hb : ∀ x ∈ b, x.1 ≤ x.2) (t : Int) : decide (0 < cnt0 (evs a b) t) = has a t ∧ decide (0 < cnt1 (evs a b) t) = has b t := by
  obtain ⟨-, h1, h2⟩ := cnt_ev0 ha t
  obtain ⟨-, k1, k2⟩ := cnt_ev1 hb t
  rw [evs, cnt0_append, cnt1_append, h2, k2, Int.add_zero, Int.zero_add]
  constructor
  · rw [Bool.eq_iff_iff, decide_eq_true_eq, h1]
  · rw [Bool.eq_iff_iff, decide_eq_true_eq, k1]

/-! Groups. -/
/-- Events of one time are made one. -/
def grp : List Ev → List Ev
  | [] => []
  | e :: r => match grp r with
    | [] => [e]
    | f :: s => if f.1 = e.1 then (e.1, e.2.1 + f.2.1, e.2.2 + f.2.2) :: s else e :: f :: s
theorem grp_nil' {e : Ev} {r : List Ev} (h : grp r = []) : grp (e :: r) = [e] := by rw [grp, h]
theorem grp_same {e f : Ev} {r s : List Ev} (h : grp r = f :: s) (q : f.1 = e.1) : grp (e :: r) = (e.1, e.2.1 + f.2.1, e.2.2 + f.2.2) :: s := by
  rw [grp, h]
  exact if_pos q
theorem grp_else {e f : Ev} {r s : List Ev} (h : grp r = f :: s) (q : f.1 ≠ e.1) : grp (e :: r) = e :: f :: s := by
  rw [grp, h]
  exact if_neg q
theorem grp_head : ∀ (r : List Ev), (r = [] ∧ grp r = []) ∨ ∃ e r' f s, r = e :: r' ∧ grp r = f :: s ∧ f.1 = e.1
  | [] => .inl ⟨rfl, rfl⟩
  | e :: r => .inr <| by
    rcases hg : grp r with _ | ⟨f, s⟩
    · exact ⟨e, r, e, [], rfl, grp_nil' hg, rfl⟩
    · by_cases h : f.1 = e.1
      · exact ⟨e, r, _, s, rfl, grp_same hg h, rfl⟩
      · exact ⟨e, r, e, f :: s, rfl, grp_else hg h, rfl⟩
theorem grp_merge (e f : Ev) (r : List Ev) (h : f.1 = e.1) : grp (e :: f :: r) = grp ((e.1, e.2.1 + f.2.1, e.2.2 + f.2.2) :: r) := by
  have key : ∀ (q : Ev), grp (q :: r) = match grp r with | [] => [q] | g :: s => if g.1 = q.1 then (q.1, q.2.1 + g.2.1, q.2.2 + g.2.2) :: s else q :: g :: s := fun q => by rw [grp]
  rw [grp, key f, key]
  rcases grp r with _ | ⟨g, s⟩
  · simp [h]
  · by_cases hg : g.1 = f.1
    · simp [hg, h, Int.add_assoc]
    · have : ¬ g.1 = e.1 := fun q => hg (q.trans h.symm)
      simp [h, this]
theorem grp_split (e : Ev) (r : List Ev) (h : ∀ f r', r = f :: r' → f.1 ≠ e.1) : grp (e :: r) = e :: grp r := by
  rcases grp_head r with ⟨rfl, h0⟩ | ⟨f, r', g, s, rfl, h0, h1⟩
  · rfl
  · have := h f r' rfl
    rw [h0, grp_else h0 (by rw [h1]; exact this)]
theorem grp_cnt (l : List Ev) (t : Int) : cnt0 (grp l) t = cnt0 l t ∧ cnt1 (grp l) t = cnt1 l t := by
  induction l with
  | nil => exact ⟨rfl, rfl⟩
  | cons e r ih =>
    rw [cnt0_cons, cnt1_cons, ← ih.1, ← ih.2]
    rcases hg : grp r with _ | ⟨f, s⟩
    · rw [grp_nil' hg, cnt0_cons, cnt1_cons]; exact ⟨rfl, rfl⟩
    · by_cases h : f.1 = e.1
      · rw [grp_same hg h, cnt0_cons, cnt1_cons, cnt0_cons, cnt1_cons, h]
        dsimp only
        constructor <;> split <;> omega
      · rw [grp_else hg h, cnt0_cons, cnt1_cons]; exact ⟨rfl, rfl⟩
theorem grp_mem {l : List Ev} {f : Ev} (h : f ∈ grp l) : ∃ e ∈ l, e.1 = f.1 := by
  induction l generalizing f with
  | nil => cases h
  | cons e r ih =>
    rw [grp] at h
    rcases hg : grp r with _ | ⟨g, s⟩
    · rw [hg] at h
      simp at h
      exact ⟨e, .head _, by rw [h]⟩
    · rw [hg] at h ih
      by_cases q : g.1 = e.1
      · simp only [if_pos q] at h
        rcases List.mem_cons.1 h with rfl | h
        · exact ⟨e, .head _, rfl⟩
        · obtain ⟨d, hd, he⟩ := ih (.tail _ h)
          exact ⟨d, .tail _ hd, he⟩
      · simp only [if_neg q] at h
        rcases List.mem_cons.1 h with rfl | h
        · exact ⟨f, .head _, rfl⟩
        · obtain ⟨d, hd, he⟩ := ih h
          exact ⟨d, .tail _ hd, he⟩
theorem grp_sorted {l : List Ev} (h : l.Pairwise fun x y => x.1 ≤ y.1) : (grp l).Pairwise fun x y => x.1 < y.1 := by
  induction l with
  | nil => exact .nil
  | cons e r ih =>
    have ih := ih (List.pairwise_cons.1 h).2
    have hm : ∀ f ∈ grp r, e.1 ≤ f.1 := fun f hf => by
      obtain ⟨d, hd, he⟩ := grp_mem hf
      rw [← he]
      exact (List.pairwise_cons.1 h).1 d hd
    rw [grp]
    rcases hg : grp r with _ | ⟨g, s⟩
    · simp
    · rw [hg] at ih hm
      have ih' := List.pairwise_cons.1 ih
      by_cases q : g.1 = e.1
      · simp only [if_pos q]
        exact List.pairwise_cons.2 ⟨fun y hy => by have := ih'.1 y hy; simp only; omega, ih'.2⟩
      · simp only [if_neg q]
        refine List.pairwise_cons.2 ⟨fun y hy => ?_, ih⟩
        have h0 := hm g (.head _)
        rcases List.mem_cons.1 hy with rfl | hy
        · omega
        · have := ih'.1 y hy; omega

/-! What a join makes of the groups. -/
def jn (want : Bool → Bool → Bool) (m0 m1 : Int) (op : Option Int) : List Ev → List Sp
  | [] => match op with | none => [] | some f => [(f, 0)]
  | e :: r =>
    match op, want (decide (0 < m0 + e.2.1)) (decide (0 < m1 + e.2.2)) with
    | none, true => jn want (m0 + e.2.1) (m1 + e.2.2) (some e.1) r
    | some f, false => (f, e.1 - 1) :: jn want (m0 + e.2.1) (m1 + e.2.2) none r
    | o, _ => jn want (m0 + e.2.1) (m1 + e.2.2) o r
def wc (want : Bool → Bool → Bool) (m0 m1 : Int) (g : List Ev) (t : Int) : Bool := want (decide (0 < m0 + cnt0 g t)) (decide (0 < m1 + cnt1 g t))
theorem cnt_before {g : List Ev} {t : Int} (h : ∀ e ∈ g, t < e.1) : cnt0 g t = 0 ∧ cnt1 g t = 0 := by
  induction g with
  | nil => exact ⟨rfl, rfl⟩
  | cons e r ih =>
    have := h e (.head _)
    rw [cnt0_cons, cnt1_cons, if_neg (by omega), if_neg (by omega)]
    have := ih fun e he => h e (.tail _ he)
    omega
/-- Behind the last group nothing is wanted. -/
def Ends (want : Bool → Bool → Bool) (m0 m1 : Int) (g : List Ev) : Prop := want (decide (0 < m0 + (g.map fun e => e.2.1).sum)) (decide (0 < m1 + (g.map fun e => e.2.2).sum)) = false
theorem wc_cons_ge (want : Bool → Bool → Bool) (m0 m1 : Int) (e : Ev) (r : List Ev) {t : Int} (ht : e.1 ≤ t) : wc want m0 m1 (e :: r) t = wc want (m0 + e.2.1) (m1 + e.2.2) r t := by
  simp only [wc, cnt0_cons, cnt1_cons, if_pos ht, Int.add_assoc]
theorem wc_before (want : Bool → Bool → Bool) (m0 m1 : Int) {g : List Ev} {t : Int} (h : ∀ e ∈ g, t < e.1) : wc want m0 m1 g t = want (decide (0 < m0)) (decide (0 < m1)) := by
  simp only [wc, (cnt_before h).1, (cnt_before h).2, Int.add_zero]
theorem jn_law (want : Bool → Bool → Bool) : ∀ (g : List Ev) (m0 m1 : Int) (op : Option Int) (b : Int),
    g.Pairwise (fun x y => x.1 < y.1) → (∀ e ∈ g, b < e.1) → op.isSome = want (decide (0 < m0)) (decide (0 < m1)) → Ends want m0 m1 g → (∀ f, op = some f → f ≤ b) →
    Norm (jn want m0 m1 op g) ∧ (∀ s ∈ jn want m0 m1 op g, (op.getD (b + 1)) ≤ s.1) ∧
      ∀ t, has (jn want m0 m1 op g) t = if t ≤ b then (match op with | none => false | some f => decide (f ≤ t)) else wc want m0 m1 g t
  | [], m0, m1, op, b, _, _, ho, he, _ => by
    simp only [Ends, List.map_nil, List.sum_nil, Int.add_zero] at he
    rw [he] at ho
    cases op with
    | some f => simp at ho
    | none => exact ⟨Norm.nil, by simp [jn], fun t => by simp [jn, has_nil, wc, cnt0_nil, cnt1_nil, he]⟩
  | e :: r, m0, m1, op, b, hp, hb, ho, he, hf => by
    have hp' := List.pairwise_cons.1 hp
    have he' : Ends want (m0 + e.2.1) (m1 + e.2.2) r := by
      simpa [Ends, Int.add_assoc] using he
    have hbe := hb e (.head _)
    have hbef : ∀ t, b < t → t < e.1 → wc want m0 m1 (e :: r) t = op.isSome := fun t _ h2 => by
      rw [wc_before want m0 m1 (t := t) fun d hd => by
        rcases List.mem_cons.1 hd with rfl | hd
        · exact h2
        · have := hp'.1 d hd; omega, ho]
    have aft := fun {t : Int} (ht : e.1 ≤ t) => wc_cons_ge want m0 m1 e r ht
    have at0 : wc want (m0 + e.2.1) (m1 + e.2.2) r e.1 = want (decide (0 < m0 + e.2.1)) (decide (0 < m1 + e.2.2)) := wc_before want _ _ fun d hd => hp'.1 d hd
    rcases hw : want (decide (0 < m0 + e.2.1)) (decide (0 < m1 + e.2.2)) with _ | _
    · cases op with
      | none =>
        obtain ⟨k1, k2, k3⟩ := jn_law want r (m0 + e.2.1) (m1 + e.2.2) none e.1 hp'.2 hp'.1 (by rw [hw]; rfl) he' (by simp)
        simp only [jn, hw]
        refine ⟨k1, fun s hs => by have := k2 s hs; simp only [Option.getD_none] at this ⊢; omega, fun t => ?_⟩
        rw [k3]
        by_cases h1 : t ≤ b
        · rw [if_pos (by omega), if_pos h1]
        · rw [if_neg h1]
          by_cases h2 : t < e.1
          · rw [if_pos (by omega), hbef t (by omega) h2]; rfl
          · by_cases h3 : t = e.1
            · subst h3; rw [if_pos (Int.le_refl _), aft (Int.le_refl _), at0, hw]
            · rw [if_neg (by omega), aft (by omega)]
      | some f =>
        obtain ⟨k1, k2, k3⟩ := jn_law want r (m0 + e.2.1) (m1 + e.2.2) none e.1 hp'.2 hp'.1 (by rw [hw]; rfl) he' (by simp)
        have hfb := hf f rfl
        simp only [jn, hw]
        simp only [Option.getD_none] at k2
        refine ⟨Norm.cons (by simp only; omega) (fun y hy => by have := k2 y hy; simp only; omega) k1, fun s hs => ?_, fun t => ?_⟩
        · simp only [Option.getD_some]
          rcases List.mem_cons.1 hs with rfl | hs
          · exact Int.le_refl _
          · have := k2 s hs; omega
        · rw [has_cons, k3]
          by_cases h1 : t ≤ b
          · rw [if_pos (by omega), if_pos h1]
            have : decide (t ≤ e.1 - 1) = true := by simp; omega
            simp [this]
          · rw [if_neg h1]
            by_cases h2 : t < e.1
            · rw [if_pos (by omega), hbef t (by omega) h2]
              have p : decide (t ≤ e.1 - 1) = true := by simp; omega
              have q : decide (f ≤ t) = true := by simp; omega
              simp [p, q]
            · have p : decide (t ≤ e.1 - 1) = false := by simp; omega
              by_cases h3 : t = e.1
              · subst h3; rw [if_pos (Int.le_refl _), aft (Int.le_refl _), at0, hw]; simp
                intro _; omega
              · rw [if_neg (by omega), aft (by omega)]; simp
                intro _ _; omega
    · cases op with
      | none =>
        obtain ⟨k1, k2, k3⟩ := jn_law want r (m0 + e.2.1) (m1 + e.2.2) (some e.1) e.1 hp'.2 hp'.1 (by rw [hw]; rfl) he' (fun f h => by injection h with h; omega)
        simp only [jn, hw]
        refine ⟨k1, fun s hs => by have := k2 s hs; simp only [Option.getD_none, Option.getD_some] at this ⊢; omega, fun t => ?_⟩
        rw [k3]
        by_cases h1 : t ≤ b
        · rw [if_pos (by omega), if_pos h1]; simp; omega
        · rw [if_neg h1]
          by_cases h2 : t < e.1
          · rw [if_pos (by omega), hbef t (by omega) h2]; simp; omega
          · by_cases h3 : t = e.1
            · subst h3; rw [if_pos (Int.le_refl _), aft (Int.le_refl _), at0, hw]; simp
            · rw [if_neg (by omega), aft (by omega)]
      | some f =>
        have hfb := hf f rfl
        obtain ⟨k1, k2, k3⟩ := jn_law want r (m0 + e.2.1) (m1 + e.2.2) (some f) e.1 hp'.2 hp'.1 (by rw [hw]; rfl) he' (fun f' h => by injection h with h; omega)
        simp only [jn, hw]
        refine ⟨k1, k2, fun t => ?_⟩
        rw [k3]
        by_cases h1 : t ≤ b
        · rw [if_pos (by omega), if_pos h1]
        · rw [if_neg h1]
          by_cases h2 : t < e.1
          · rw [if_pos (by omega), hbef t (by omega) h2]; simp; omega
          · by_cases h3 : t = e.1
            · subst h3; rw [if_pos (Int.le_refl _), aft (Int.le_refl _), at0, hw]; simp; omega
            · rw [if_neg (by omega), aft (by omega)]

def tot0 (l : List Ev) : Int := (l.map fun e => e.2.1).sum
def tot1 (l : List Ev) : Int := (l.map fun e => e.2.2).sum
theorem tot0_cons (e : Ev) (l : List Ev) : tot0 (e :: l) = e.2.1 + tot0 l := rfl
theorem tot1_cons (e : Ev) (l : List Ev) : tot1 (e :: l) = e.2.2 + tot1 l := rfl
theorem tot_perm {l m : List Ev} (h : l.Perm m) : tot0 l = tot0 m ∧ tot1 l = tot1 m := by
  induction h with
  | nil => exact ⟨rfl, rfl⟩
  | cons x _ ih => rw [tot0_cons, tot0_cons, tot1_cons, tot1_cons, ih.1, ih.2]; exact ⟨rfl, rfl⟩
  | swap x y l => simp only [tot0_cons, tot1_cons]; omega
  | trans _ _ i j => exact ⟨i.1.trans j.1, i.2.trans j.2⟩
theorem tot_grp (l : List Ev) : tot0 (grp l) = tot0 l ∧ tot1 (grp l) = tot1 l := by
  induction l with
  | nil => exact ⟨rfl, rfl⟩
  | cons e r ih =>
    rw [tot0_cons, tot1_cons, ← ih.1, ← ih.2]
    rcases hg : grp r with _ | ⟨f, s⟩
    · rw [grp_nil' hg]; exact ⟨rfl, rfl⟩
    · by_cases h : f.1 = e.1
      · rw [grp_same hg h]; simp only [tot0_cons, tot1_cons]; omega
      · rw [grp_else hg h]; simp only [tot0_cons, tot1_cons]; exact ⟨trivial, trivial⟩
theorem tot_append (l m : List Ev) : tot0 (l ++ m) = tot0 l + tot0 m ∧ tot1 (l ++ m) = tot1 l + tot1 m := by
  simp [tot0, tot1, List.sum_append]
theorem tot_evs (a b : List Sp) : tot0 (evs a b) = 0 ∧ tot1 (evs a b) = 0 := by
  have h0 : ∀ l : List Sp, tot0 (ev0 l) = 0 ∧ tot1 (ev0 l) = 0 := by
    intro l
    induction l with
    | nil => exact ⟨rfl, rfl⟩
    | cons s l ih => rw [ev0_cons]; simp only [tot0_cons, tot1_cons, ih.1, ih.2]; exact ⟨rfl, rfl⟩
  have h1 : ∀ l : List Sp, tot0 (ev1 l) = 0 ∧ tot1 (ev1 l) = 0 := by
    intro l
    induction l with
    | nil => exact ⟨rfl, rfl⟩
    | cons s l ih => rw [ev1_cons]; simp only [tot0_cons, tot1_cons, ih.1, ih.2]; exact ⟨rfl, rfl⟩
  rw [evs, (tot_append _ _).1, (tot_append _ _).2, (h0 a).1, (h0 a).2, (h1 b).1, (h1 b).2]
  exact ⟨rfl, rfl⟩
theorem join_law (want : Bool → Bool → Bool) (hw : want false false = false) {a b : List Sp} (ha : ∀ x ∈ a, x.1 ≤ x.2) (hb : ∀ x ∈ b, x.1 ≤ x.2) {s : List Ev} (hp : s.Perm (evs a b)) (hs : s.Pairwise fun x y => x.1 ≤ y.1) :
    Norm (jn want 0 0 none (grp s)) ∧ ∀ t, has (jn want 0 0 none (grp s)) t = want (has a t) (has b t) := by
  have hsort := grp_sorted hs
  have hends : Ends want 0 0 (grp s) := by
    have e := tot_grp s
    have e' := tot_perm hp
    have e'' := tot_evs a b
    show want (decide (0 < 0 + tot0 (grp s))) (decide (0 < 0 + tot1 (grp s))) = false
    rw [e.1, e.2, e'.1, e'.2, e''.1, e''.2]
    exact hw
  have key : ∀ b0 : Int, (∀ e ∈ grp s, b0 < e.1) → Norm (jn want 0 0 none (grp s)) ∧ ∀ t, has (jn want 0 0 none (grp s)) t = want (has a t) (has b t) := fun b0 hb0 => by
    obtain ⟨k1, -, k3⟩ := jn_law want (grp s) 0 0 none b0 hsort hb0 (by simp [hw]) hends (by simp)
    refine ⟨k1, fun t => ?_⟩
    have hc : wc want 0 0 (grp s) t = want (has a t) (has b t) := by
      simp only [wc, Int.zero_add, (grp_cnt s t).1, (grp_cnt s t).2, cnt0_perm hp, cnt1_perm hp, (cnt_evs ha hb t).1, (cnt_evs ha hb t).2]
    rw [k3, ← hc]
    by_cases h : t ≤ b0
    · rw [if_pos h, wc_before want 0 0 fun e he => by have := hb0 e he; omega]; simp [hw]
    · rw [if_neg h]
  rcases hg : grp s with _ | ⟨e, r⟩
  · rw [hg] at key; exact key 0 (by simp)
  · rw [hg] at key hsort
    exact key (e.1 - 1) fun d hd => by
      rcases List.mem_cons.1 hd with rfl | hd
      · omega
      · have := (List.pairwise_cons.1 hsort).1 d hd; omega

/-! The reference. -/
/-- One more number among increasing ones. -/
def ins (t : Int) : List Int → List Int
  | [] => [t]
  | x :: r => if x < t then x :: ins t r else if x = t then x :: r else t :: x :: r
theorem ins_mem {t y : Int} {l : List Int} : y ∈ ins t l ↔ y = t ∨ y ∈ l := by
  induction l with
  | nil => simp [ins]
  | cons x r ih =>
    rw [ins]
    split
    · rw [List.mem_cons, ih, List.mem_cons]; exact ⟨fun h => by rcases h with h | h | h <;> simp [h], fun h => by rcases h with h | h | h <;> simp [h]⟩
    · split
      · rename_i h; subst h; simp
      · simp
theorem ins_sorted {t : Int} {l : List Int} (h : l.Pairwise (· < ·)) : (ins t l).Pairwise (· < ·) := by
  induction l with
  | nil => simp [ins]
  | cons x r ih =>
    have h' := List.pairwise_cons.1 h
    rw [ins]
    split
    · rename_i q
      exact List.pairwise_cons.2 ⟨fun y hy => (ins_mem.1 hy).elim (fun e => by rw [e]; exact q) (h'.1 y), ih h'.2⟩
    · split
      · exact h
      · exact List.pairwise_cons.2 ⟨fun y hy => (List.mem_cons.1 hy).elim (fun e => by omega) (fun hy => by have := h'.1 y hy; omega), h⟩
def bords (l : List Sp) : List Int := l.foldl (fun o s => ins (s.2 + 1) (ins s.1 o)) []
theorem bords_law (l : List Sp) : (bords l).Pairwise (· < ·) ∧ ∀ y, y ∈ bords l ↔ ∃ s ∈ l, y = s.1 ∨ y = s.2 + 1 := by
  have key : ∀ (l : List Sp) (o : List Int), o.Pairwise (· < ·) → (l.foldl (fun o s => ins (s.2 + 1) (ins s.1 o)) o).Pairwise (· < ·) ∧ ∀ y, y ∈ l.foldl (fun o s => ins (s.2 + 1) (ins s.1 o)) o ↔ y ∈ o ∨ ∃ s ∈ l, y = s.1 ∨ y = s.2 + 1 := by
    intro l
    induction l with
    | nil => intro o h; exact ⟨h, by simp⟩
    | cons s l ih =>
      intro o h
      obtain ⟨k1, k2⟩ := ih _ (ins_sorted (t := s.2 + 1) (ins_sorted (t := s.1) h))
      refine ⟨k1, fun y => ?_⟩
      rw [List.foldl_cons, k2, ins_mem, ins_mem]
      simp only [List.mem_cons, exists_eq_or_imp]
      exact ⟨fun h => by rcases h with (h | h | h) | h <;> simp [h], fun h => by rcases h with h | (h | h) | h <;> simp [h]⟩
  obtain ⟨k1, k2⟩ := key l [] .nil
  exact ⟨k1, fun y => by rw [bords, k2]; simp⟩
/-- One step: the times from x up to y are wanted. -/
def rext (out : List Sp) (x y : Int) : List Sp :=
  match out.getLast? with
  | some (f, t) => if t = x - 1 then out.dropLast ++ [(f, y - 1)] else out ++ [(x, y - 1)]
  | none => [(x, y - 1)]
def rfold (wanted : Int → Bool) : List Int → List Sp → List Sp
  | x :: y :: r, out => rfold wanted (y :: r) (if wanted x then rext out x y else out)
  | _, out => out
def Const (wanted : Int → Bool) : List Int → Prop
  | x :: y :: r => (∀ t, x ≤ t → t < y → wanted t = wanted x) ∧ Const wanted (y :: r)
  | [x] => ∀ t, x ≤ t → wanted t = false
  | [] => True
theorem has_last (out : List Sp) (f u v : Int) (h : f ≤ u) (hv : u ≤ v) (t : Int) : has (out ++ [(f, v)]) t = (has (out ++ [(f, u)]) t || (decide (u < t) && decide (t ≤ v))) := by
  simp only [has_append, has_cons, has_nil, Bool.or_false]
  rcases has out t with _ | _
  · simp only [Bool.false_or]
    rw [Bool.eq_iff_iff]
    simp
    omega
  · rfl
theorem rext_law {out : List Sp} {x y : Int} (h : Norm out) (hx : ∀ s ∈ out, s.2 < x) (hy : x < y) :
    Norm (rext out x y) ∧ (∀ s ∈ rext out x y, s.2 < y) ∧ ∀ t, has (rext out x y) t = (has out t || (decide (x ≤ t) && decide (t < y))) := by
  rcases List.eq_nil_or_concat out with rfl | ⟨o, ⟨f, u⟩, rfl⟩
  · refine ⟨⟨by simp [rext]; omega, by simp [rext]⟩, by simp [rext]; omega, fun t => ?_⟩
    simp only [rext, List.getLast?_nil, has_cons, has_nil, Bool.or_false, Bool.false_or]
    rw [Bool.eq_iff_iff]
    simp
    omega
  · have hu : u < x := hx (f, u) (by simp)
    have hfu : f ≤ u := h.le (f, u) (by simp)
    rw [List.concat_eq_append] at *
    have hg := List.pairwise_append.1 h.gap
    rw [rext, List.getLast?_concat]
    simp only []
    by_cases e : u = x - 1
    · rw [if_pos e, List.dropLast_concat]
      refine ⟨⟨fun s hs => ?_, List.pairwise_append.2 ⟨hg.1, by simp, fun a ha b hb => ?_⟩⟩, fun s hs => ?_, fun t => ?_⟩
      · rcases List.mem_append.1 hs with hs | hs
        · exact h.le s (by simp [hs])
        · simp at hs; subst hs; simp only; omega
      · simp at hb; subst hb; exact hg.2.2 a ha (f, u) (by simp)
      · rcases List.mem_append.1 hs with hs | hs
        · have := hx s (by simp [hs]); omega
        · simp at hs; subst hs; simp only; omega
      · rw [has_last o f u (y - 1) hfu (by omega)]
        congr 1
        rw [Bool.eq_iff_iff]
        simp
        omega
    · rw [if_neg e]
      refine ⟨⟨fun s hs => ?_, List.pairwise_append.2 ⟨by simpa using h.gap, by simp, fun a ha b hb => ?_⟩⟩, fun s hs => ?_, fun t => ?_⟩
      · rcases List.mem_append.1 hs with hs | hs
        · exact h.le s (by simpa using hs)
        · simp at hs; subst hs; simp only; omega
      · simp at hb; subst hb
        rcases List.mem_append.1 ha with ha | ha
        · have := hg.2.2 a ha (f, u) (by simp)
          simp only at this ⊢; omega
        · simp at ha; subst ha; simp only; omega
      · rcases List.mem_append.1 hs with hs | hs
        · have := hx s (by simpa using hs); omega
        · simp at hs; subst hs; simp only; omega
      · rw [has_append (o ++ [(f, u)])]
        congr 1
        simp only [has_cons, has_nil, Bool.or_false]
        rw [Bool.eq_iff_iff]
        simp
        omega
theorem rfold_law (wanted : Int → Bool) : ∀ (l : List Int) (out : List Sp) (x : Int) (r : List Int), l = x :: r → l.Pairwise (· < ·) → Const wanted l → Norm out → (∀ s ∈ out, s.2 < x) → (∀ t, t < x → has out t = wanted t) →
    Norm (rfold wanted l out) ∧ ∀ t, has (rfold wanted l out) t = wanted t
  | [x], out, _, _, e, _, hc, hn, hx, hh => by
    injection e with e1 e2
    subst e1 e2
    refine ⟨hn, fun t => ?_⟩
    by_cases ht : t < x
    · exact hh t ht
    · rw [hc t (by omega)]
      exact has_false.2 fun s hs => by have := hx s hs; omega
  | x :: y :: r, out, _, _, e, hp, hc, hn, hx, hh => by
    injection e with e1 e2
    subst e1 e2
    have hp' := List.pairwise_cons.1 hp
    have hxy : x < y := hp'.1 y (.head _)
    rw [rfold]
    by_cases hw : wanted x = true
    · rw [if_pos hw]
      obtain ⟨k1, k2, k3⟩ := rext_law hn hx hxy
      refine rfold_law wanted (y :: r) _ y r rfl hp'.2 hc.2 k1 k2 fun t ht => ?_
      rw [k3]
      by_cases q : t < x
      · rw [hh t q]
        have : decide (x ≤ t) = false := by simp; omega
        simp [this]
      · rw [hc.1 t (by omega) ht, hw]
        simp
        omega
    · rw [if_neg hw]
      refine rfold_law wanted (y :: r) _ y r rfl hp'.2 hc.2 hn (fun s hs => by have := hx s hs; omega) fun t ht => ?_
      by_cases q : t < x
      · exact hh t q
      · rw [hc.1 t (by omega) ht]
        simp only [Bool.not_eq_true] at hw
        rw [hw]
        exact has_false.2 fun s hs => by have := hx s hs; omega
/-- Between two borders nothing changes. -/
theorem const_of (wanted : Int → Bool) (B : List Int) (hd : ∀ t u, (∀ q ∈ B, (q ≤ t ↔ q ≤ u)) → wanted t = wanted u) (hend : ∀ t, (∀ q ∈ B, q ≤ t) → wanted t = false) :
    ∀ (l : List Int) (x : Int) (r : List Int), l = x :: r → l.Pairwise (· < ·) → (∀ q ∈ B, q ≤ x ∨ q ∈ r) → Const wanted l
  | [x], _, _, e, _, hq => by
    injection e with e1 e2
    subst e1 e2
    exact fun t ht => hend t fun q hqB => by rcases hq q hqB with h | h; · omega
                                             · cases h
  | x :: y :: r, _, _, e, hp, hq => by
    injection e with e1 e2
    subst e1 e2
    have hp' := List.pairwise_cons.1 hp
    refine ⟨fun t h1 h2 => hd t x fun q hqB => ?_, const_of wanted B hd hend (y :: r) y r rfl hp'.2 fun q hqB => ?_⟩
    · rcases hq q hqB with h | h
      · omega
      · have : y ≤ q := by
          rcases List.mem_cons.1 h with rfl | h
          · omega
          · have := (List.pairwise_cons.1 hp'.2).1 q h; omega
        have := hp'.1 y (.head _)
        omega
    · rcases hq q hqB with h | h
      · have := hp'.1 y (.head _)
        left; omega
      · rcases List.mem_cons.1 h with rfl | h
        · left; omega
        · exact .inr h
def rres (want : Bool → Bool → Bool) (a b : List Sp) : List Sp := rfold (fun t => want (has a t) (has b t)) (bords (a ++ b)) []
theorem rres_law (want : Bool → Bool → Bool) (hw : want false false = false) (a b : List Sp) : Norm (rres want a b) ∧ ∀ t, has (rres want a b) t = want (has a t) (has b t) := by
  obtain ⟨hs, hm⟩ := bords_law (a ++ b)
  have hdep : ∀ (l : List Sp), (∀ s ∈ l, s ∈ a ++ b) → ∀ t u, (∀ q ∈ bords (a ++ b), (q ≤ t ↔ q ≤ u)) → has l t = has l u := fun l hl t u h => by
    rw [Bool.eq_iff_iff, has_iff, has_iff]
    refine exists_congr fun s => and_congr_right fun hs => ?_
    have h1 := h s.1 ((hm _).2 ⟨s, hl s hs, .inl rfl⟩)
    have h2 := h (s.2 + 1) ((hm _).2 ⟨s, hl s hs, .inr rfl⟩)
    omega
  have hend : ∀ (l : List Sp), (∀ s ∈ l, s ∈ a ++ b) → ∀ t, (∀ q ∈ bords (a ++ b), q ≤ t) → has l t = false := fun l hl t h => has_false.2 fun s hs => by
    have h2 := h (s.2 + 1) ((hm _).2 ⟨s, hl s hs, .inr rfl⟩)
    omega
  have la : ∀ s ∈ a, s ∈ a ++ b := fun s h => List.mem_append.2 (.inl h)
  have lb : ∀ s ∈ b, s ∈ a ++ b := fun s h => List.mem_append.2 (.inr h)
  have hpre : ∀ (l : List Sp), (∀ s ∈ l, s ∈ a ++ b) → ∀ t, (∀ q ∈ bords (a ++ b), t < q) → has l t = false := fun l hl t h => has_false.2 fun s hs => by
    have h1 := h s.1 ((hm _).2 ⟨s, hl s hs, .inl rfl⟩)
    omega
  rw [rres]
  rcases hB : bords (a ++ b) with _ | ⟨x, r⟩
  · refine ⟨Norm.nil, fun t => ?_⟩
    rw [hpre a la t (by simp [hB]), hpre b lb t (by simp [hB]), hw]
    rfl
  · rw [hB] at hs
    refine rfold_law _ (x :: r) [] x r rfl hs (const_of _ (x :: r) (fun t u h => ?_) (fun t h => ?_) (x :: r) x r rfl hs fun q hq => ?_) Norm.nil (by simp) fun t ht => ?_
    · rw [hdep a la t u (by rw [hB]; exact h), hdep b lb t u (by rw [hB]; exact h)]
    · rw [hend a la t (by rw [hB]; exact h), hend b lb t (by rw [hB]; exact h), hw]
    · rcases List.mem_cons.1 hq with rfl | hq
      · exact .inl (Int.le_refl _)
      · exact .inr hq
    · have : ∀ q ∈ bords (a ++ b), t < q := fun q hq => by
        rw [hB] at hq
        rcases List.mem_cons.1 hq with rfl | hq
        · exact ht
        · have := (List.pairwise_cons.1 hs).1 q hq; omega
      rw [hpre a la t this, hpre b lb t this, hw]
      rfl
/-- Both ways give the same list. -/
theorem join_ref (want : Bool → Bool → Bool) (hw : want false false = false) {a b : List Sp} (ha : ∀ x ∈ a, x.1 ≤ x.2) (hb : ∀ x ∈ b, x.1 ≤ x.2) {s : List Ev} (hp : s.Perm (evs a b)) (hs : s.Pairwise fun x y => x.1 ≤ y.1) :
    jn want 0 0 none (grp s) = rres want a b :=
  norm_unique (join_law want hw ha hb hp hs).1 (rres_law want hw a b).1 fun t => by rw [(join_law want hw ha hb hp hs).2, (rres_law want hw a b).2]
end Go.Proofs.Ytaedijppbghnaaa.Bk
