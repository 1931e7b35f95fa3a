/- TrPl: texts for the statements of this seat: contracts of functions, walks, plain laws. Conditions: none. -/
set_option linter.all false
/- Traces: the plain model. -/
namespace Tr
/-- An event. -/
structure Ev where
  kind : Int
  t : Int
  job : Int
  due : Int
  att : Int
  run : Int
  why : Int
  whn : Int
theorem Ev.ext' {a b : Ev} (h1 : a.kind = b.kind) (h2 : a.t = b.t) (h3 : a.job = b.job) (h4 : a.due = b.due) (h5 : a.att = b.att) (h6 : a.run = b.run) (h7 : a.why = b.why) (h8 : a.whn = b.whn) : a = b := by
  cases a; cases b; simp_all
instance : DecidableEq Ev := fun a b => decidable_of_iff (a.kind = b.kind ∧ a.t = b.t ∧ a.job = b.job ∧ a.due = b.due ∧ a.att = b.att ∧ a.run = b.run ∧ a.why = b.why ∧ a.whn = b.whn)
  ⟨fun ⟨h1, h2, h3, h4, h5, h6, h7, h8⟩ => Ev.ext' h1 h2 h3 h4 h5 h6 h7 h8, fun h => by subst h; simp⟩
def vt (t : Int) : Bool := decide (0 ≤ t) && decide (t ≤ 253402300799)
/-- The greatest Why of a kind. -/
def mostWhy (k : Int) : Int := if k = 5 then 6 else if k = 6 then 16 else 0
/-- Whether the fields of an event are in their ranges. -/
def fits (e : Ev) : Bool :=
  (if e.kind = 6 then decide (e.job = 0) else decide (0 ≤ e.job) && decide (e.job ≤ 63)) &&
  (if e.kind ≤ 5 then decide (0 ≤ e.due) && decide (e.due ≤ e.t) else decide (e.due = 0)) &&
  (if e.kind ≤ 5 then decide ((if e.kind = 4 then 2 else 1) ≤ e.att) && decide (e.att ≤ 21) else decide (e.att = 0)) &&
  (if e.kind ≤ 3 then decide (1 ≤ e.run) else decide (e.run = 0)) &&
  (if e.kind = 4 ∨ e.kind = 7 then decide (e.t + 1 ≤ e.whn) && decide (e.whn ≤ 4611686018427387904) else decide (e.whn = 0)) &&
  (if e.kind = 5 ∨ e.kind = 6 then decide (1 ≤ e.why) && decide (e.why ≤ mostWhy e.kind) else decide (e.why = 0))
/-- Check of an event. -/
def chk (e : Ev) : Int :=
  if e.kind < 1 ∨ 8 < e.kind then 2 else
  if vt e.t = false ∨ e.kind ≤ 5 ∧ vt e.due = false then 14 else
  if fits e = true then 0 else 2
theorem chk_ok {e : Ev} (h : chk e = 0) : 1 ≤ e.kind ∧ e.kind ≤ 8 ∧ 0 ≤ e.t ∧ e.t ≤ 253402300799 ∧ fits e = true := by
  unfold chk at h
  split at h
  · omega
  · split at h
    · omega
    · split at h
      · rename_i h1 h2 h3
        simp only [vt, Bool.and_eq_false_iff, decide_eq_false_iff_not] at h2
        exact ⟨by omega, by omega, by omega, by omega, h3⟩
      · omega
theorem snoc_ind {P : List Ev → Prop} (h0 : P []) (h1 : ∀ p x, P p → P (p ++ [x])) (l : List Ev) : P l := by
  have h : ∀ m : List Ev, P m.reverse := by
    intro m
    induction m with
    | nil => exact h0
    | cons a m ih => rw [List.reverse_cons]; exact h1 _ _ ih
  simpa using h l.reverse
/-- The launches of a list that have not ended. -/
def ustep (u : List Ev) (x : Ev) : List Ev := if x.kind = 1 then u ++ [x] else if x.kind = 2 ∨ x.kind = 3 then u.filter (fun e => e.run != x.run) else u
def und (p : List Ev) : List Ev := p.foldl ustep []
def lstep (a : Int) (x : Ev) : Int := if x.kind = 1 then x.run else a
def last (p : List Ev) : Int := p.foldl lstep 0
theorem und_snoc (p : List Ev) (x : Ev) : und (p ++ [x]) = ustep (und p) x := by simp [und]
theorem last_snoc (p : List Ev) (x : Ev) : last (p ++ [x]) = lstep (last p) x := by simp [last]
def sameB (x e : Ev) : Bool := decide (e.run = x.run) && (decide (e.job = x.job) && (decide (e.due = x.due) && decide (e.att = x.att)))
/-- The time of the last event, or something earlier. -/
def early (p : List Ev) (x : Ev) : Bool := match p.getLast? with
  | some y => decide (x.t < y.t)
  | none => false
/-- The error of an event behind a trace. -/
def poss (jobs : Int) (p : List Ev) (x : Ev) : Int :=
  if chk x ≠ 0 then chk x else
  if x.kind ≠ 6 ∧ jobs ≤ x.job then 3 else
  if early p x = true then 8 else
  if x.kind = 1 ∧ x.run ≠ last p + 1 then 8 else
  if (x.kind = 2 ∨ x.kind = 3) ∧ (und p).any (sameB x) = false then 8 else 0
/-- Where a list is no trace, and why. -/
def chkFrom (jobs : Int) (p : List Ev) : List Ev → Int × Int
  | [] => (0, 0)
  | x :: r => if poss jobs p x = 0 then chkFrom jobs (p ++ [x]) r else (p.length, poss jobs p x)
def check (jobs : Int) (l : List Ev) : Int × Int := if jobs < 0 ∨ 64 < jobs then (0, 2) else chkFrom jobs [] l
/-- A trace. -/
def Ok (jobs : Int) (l : List Ev) : Prop := ∀ i x, l[i]? = some x → poss jobs (l.take i) x = 0
theorem Ok.nil (jobs : Int) : Ok jobs [] := fun i x h => by simp at h
theorem Ok.take {jobs : Int} {l : List Ev} (h : Ok jobs l) (n : Nat) : Ok jobs (l.take n) := fun i x hx => by
  have hi := (List.getElem?_eq_some_iff.1 hx).1
  rw [List.length_take] at hi
  rw [List.getElem?_take_of_lt (by omega)] at hx
  rw [List.take_take, Nat.min_eq_left (by omega)]
  exact h i x hx
theorem Ok.snoc {jobs : Int} {p : List Ev} {x : Ev} (h : Ok jobs p) (hx : poss jobs p x = 0) : Ok jobs (p ++ [x]) := fun i y hy => by
  by_cases hi : i < p.length
  · rw [List.getElem?_append_left hi] at hy
    rw [List.take_append_of_le_length (by omega)]
    exact h i y hy
  · have := (List.getElem?_eq_some_iff.1 hy).1
    simp at this
    obtain rfl : i = p.length := by omega
    simp at hy
    subst hy
    rw [List.take_left']
    · exact hx
    · rfl
theorem Ok.of_snoc {jobs : Int} {p : List Ev} {x : Ev} (h : Ok jobs (p ++ [x])) : Ok jobs p ∧ poss jobs p x = 0 := by
  constructor
  · have := h.take p.length
    rwa [List.take_left' rfl] at this
  · have := h p.length x (by simp)
    rwa [List.take_left' rfl] at this
/-- A list is a trace, or its first event that is not possible is found. -/
theorem chkFrom_cases (jobs : Int) : ∀ (r p : List Ev), Ok jobs p → (Ok jobs (p ++ r) ∧ chkFrom jobs p r = (0, 0)) ∨ ∃ i x, r[i]? = some x ∧ Ok jobs (p ++ r.take i) ∧ poss jobs (p ++ r.take i) x ≠ 0 ∧ chkFrom jobs p r = (((p.length + i : Nat) : Int), poss jobs (p ++ r.take i) x)
  | [], p, h => .inl ⟨by simpa using h, rfl⟩
  | x :: r, p, h => by
    by_cases hx : poss jobs p x = 0
    · rcases chkFrom_cases jobs r (p ++ [x]) (h.snoc hx) with ⟨h1, h2⟩ | ⟨i, y, h1, h2, h3, h4⟩
      · exact .inl ⟨by simpa using h1, by unfold chkFrom; rw [if_pos hx]; exact h2⟩
      · refine .inr ⟨i + 1, y, by simpa using h1, by simpa using h2, by simpa using h3, ?_⟩
        unfold chkFrom; rw [if_pos hx, h4]
        simp only [List.append_assoc, List.singleton_append, List.take_succ_cons, List.length_append, List.length_singleton, Prod.mk.injEq, and_true]
        omega
    · exact .inr ⟨0, x, rfl, by simpa using h, by simpa using hx, by unfold chkFrom; rw [if_neg hx]; simp⟩
/-- The errno alone. -/
def bad (jobs : Int) (l : List Ev) : Int := (chkFrom jobs [] l).2
theorem bad_ok {jobs : Int} {l : List Ev} (h : bad jobs l = 0) : Ok jobs l := by
  rcases chkFrom_cases jobs l [] (Ok.nil _) with ⟨h1, _⟩ | ⟨i, x, h1, h2, h3, h4⟩
  · simpa using h1
  · unfold bad at h; rw [h4] at h; exact absurd h (by simpa using h3)
theorem chkFrom_of_ok {jobs : Int} {l : List Ev} (h : Ok jobs l) : chkFrom jobs [] l = (0, 0) := by
  rcases chkFrom_cases jobs l [] (Ok.nil _) with ⟨_, h1⟩ | ⟨i, x, h1, h2, h3, h4⟩
  · exact h1
  · exact absurd (h i x h1) (by simpa using h3)
theorem chkFrom_at {jobs : Int} {l : List Ev} {i : Nat} {x : Ev} (hi : l[i]? = some x) (h : Ok jobs (l.take i)) (hx : poss jobs (l.take i) x ≠ 0) : chkFrom jobs [] l = ((i : Int), poss jobs (l.take i) x) := by
  rcases chkFrom_cases jobs l [] (Ok.nil _) with ⟨h1, _⟩ | ⟨j, y, h1, h2, h3, h4⟩
  · exact absurd (h1 i x (by simpa using hi)) (by simpa using hx)
  · have hij : i = j := by
      rcases Nat.lt_trichotomy i j with h5 | h5 | h5
      · exfalso
        have := h2 i x (by
          rw [List.nil_append, List.getElem?_take_of_lt h5]; exact hi)
        rw [List.nil_append, List.take_take, Nat.min_eq_left (by omega)] at this
        exact hx this
      · exact h5
      · exfalso
        have := h j y (by rw [List.getElem?_take_of_lt h5]; exact h1)
        rw [List.take_take, Nat.min_eq_left (by omega)] at this
        exact h3 (by simpa using this)
    subst hij
    rw [hi] at h1
    injection h1 with h1
    subst h1
    simpa using h4

/-! What is under way. -/
theorem Ok.kinds {jobs : Int} {p : List Ev} {x : Ev} (h : poss jobs p x = 0) : chk x = 0 := by
  unfold poss at h
  split at h
  · exact h
  · rename_i h1; omega
theorem last_nonneg {jobs : Int} : ∀ (p : List Ev), Ok jobs p → 0 ≤ last p ∧ last p ≤ p.length ∧ (und p).Pairwise (fun a b => a.run < b.run) ∧ (∀ e ∈ und p, e.kind = 1 ∧ 1 ≤ e.run ∧ e.run ≤ last p ∧ e ∈ p) := by
  intro p
  induction p using snoc_ind with
  | h0 => intro _; simp [last, und]
  | h1 p x ih =>
    intro h
    obtain ⟨hp, hx⟩ := h.of_snoc
    obtain ⟨h1, h2, h3, h4⟩ := ih hp
    have hc := chk_ok (Ok.kinds hx)
    rw [last_snoc, und_snoc]
    unfold lstep ustep
    by_cases k1 : x.kind = 1
    · have hr : x.run = last p + 1 := by
        unfold poss at hx
        rw [if_neg (by rw [Ok.kinds (jobs := jobs) (p := p) hx]; simp)] at hx
        split at hx
        · omega
        · split at hx
          · omega
          · split at hx
            · omega
            · rename_i h5; rw [k1] at h5; simpa using h5
      simp only [if_pos k1, List.length_append, List.length_singleton]
      refine ⟨by omega, by omega, ?_, ?_⟩
      · rw [List.pairwise_append]
        refine ⟨h3, by simp, fun a ha b hb => ?_⟩
        simp at hb; subst hb
        have := h4 a ha
        omega
      · intro e he
        rcases List.mem_append.1 he with he | he
        · have := h4 e he
          exact ⟨this.1, this.2.1, by omega, List.mem_append_left _ this.2.2.2⟩
        · simp at he; subst he; exact ⟨k1, by omega, by omega, by simp⟩
    · simp only [if_neg k1, List.length_append, List.length_singleton]
      refine ⟨h1, by omega, ?_, ?_⟩
      · split
        · exact h3.filter _
        · exact h3
      · intro e he
        have he : e ∈ und p := by
          split at he
          · exact (List.mem_filter.1 he).1
          · exact he
        have := h4 e he
        exact ⟨this.1, this.2.1, this.2.2.1, List.mem_append_left _ this.2.2.2⟩

/-- What a map holds at a run. -/
def look (L : List Ev) (r : Int) : Option Ev := L.find? (fun e => e.run == r)
theorem look_snoc {L : List Ev} {x : Ev} (h : ∀ e ∈ L, e.run ≠ x.run) (r : Int) : look (L ++ [x]) r = if r = x.run then some x else look L r := by
  unfold look
  rw [List.find?_append]
  by_cases hr : r = x.run
  · subst hr
    rw [if_pos rfl]
    have : L.find? (fun e => e.run == x.run) = none := List.find?_eq_none.2 fun e he => by simpa using h e he
    rw [this]; simp
  · rw [if_neg hr]
    have : ¬ x.run = r := fun q => hr q.symm
    simp [this]
theorem look_filter (L : List Ev) (s r : Int) : look (L.filter (fun e => e.run != s)) r = if r = s then none else look L r := by
  unfold look
  induction L with
  | nil => simp
  | cons a L ih =>
    rw [List.filter_cons]
    by_cases h : a.run = s
    · rw [if_neg (by simpa using h), ih, List.find?_cons]
      by_cases hr : r = s
      · simp [hr]
      · have : ¬ a.run = r := fun q => hr (by rw [← q, h])
        have h2 : (a.run == r) = false := by simpa using this
        rw [if_neg hr, if_neg hr, h2]
    · rw [if_pos (by simpa using h), List.find?_cons, ih, List.find?_cons]
      by_cases hr : r = s
      · subst hr
        have h2 : (a.run == r) = false := by simpa using h
        simp [h2]
      · simp only [if_neg hr]
theorem look_mem {L : List Ev} {r : Int} {e : Ev} (h : look L r = some e) : e ∈ L ∧ e.run = r := by
  have := List.find?_some h
  exact ⟨List.mem_of_find?_eq_some h, by simpa using this⟩
theorem look_of_mem {L : List Ev} (hp : L.Pairwise (fun a b => a.run < b.run)) {e : Ev} (h : e ∈ L) : look L e.run = some e := by
  unfold look
  induction L with
  | nil => cases h
  | cons a L ih =>
    rw [List.pairwise_cons] at hp
    rcases List.mem_cons.1 h with h | h
    · subst h; simp
    · have := hp.1 e h
      rw [List.find?_cons_of_neg (by simp; omega)]
      exact ih hp.2 h
/-- The program asks the map, the document the list. -/
theorem any_look {L : List Ev} (hp : L.Pairwise (fun a b => a.run < b.run)) (x : Ev) : L.any (sameB x) = match look L x.run with
    | some e => decide (e.job = x.job) && (decide (e.due = x.due) && decide (e.att = x.att))
    | none => false := by
  cases h : look L x.run with
  | none =>
    simp only [List.any_eq_false]
    intro e he
    have := List.find?_eq_none.1 h e he
    have h2 : ¬ e.run = x.run := by simpa using this
    simp [sameB, h2]
  | some e =>
    obtain ⟨he, hr⟩ := look_mem h
    rw [Bool.eq_iff_iff, List.any_eq_true]
    constructor
    · rintro ⟨f, hf, hs⟩
      have hfr : f.run = x.run := by
        unfold sameB at hs
        simp only [Bool.and_eq_true, decide_eq_true_eq] at hs
        exact hs.1
      have := look_of_mem hp hf
      rw [hfr, h] at this
      injection this with this
      subst this
      unfold sameB at hs
      simp only [hfr, decide_true, Bool.true_and] at hs
      exact hs
    · intro hs
      exact ⟨e, he, by unfold sameB; simp only [hr, decide_true, Bool.true_and]; exact hs⟩
/-- What is under way, as the document counts it. -/
def undR : List Ev → List Ev
  | [] => []
  | x :: r => if x.kind = 1 ∧ r.any (fun y => (decide (y.kind = 2) || decide (y.kind = 3)) && decide (y.run = x.run)) = false then x :: undR r else undR r
theorem undR_snoc (p : List Ev) (x : Ev) : undR (p ++ [x]) = ustep (undR p) x := by
  induction p with
  | nil =>
    unfold undR ustep undR
    by_cases h1 : x.kind = 1 <;> simp [undR, h1]
  | cons a p ih =>
    rw [List.cons_append]
    unfold undR
    rw [ih, List.any_append]
    unfold ustep
    by_cases k1 : x.kind = 1
    · simp only [if_pos k1, List.any_cons, List.any_nil, k1]
      simp
      split <;> simp_all
    · by_cases k2 : x.kind = 2 ∨ x.kind = 3
      · simp only [if_neg k1, if_pos k2]
        have k3 : (decide (x.kind = 2) || decide (x.kind = 3)) = true := by simpa using k2
        by_cases hr : x.run = a.run
        · rw [if_neg (by simp [k3, hr])]
          split
          · rw [List.filter_cons_of_neg (by simp [hr])]
          · rfl
        · have hd : decide (x.run = a.run) = false := by simpa using hr
          simp only [List.any_cons, List.any_nil, hd, Bool.and_false, Bool.or_false]
          split
          · rw [List.filter_cons_of_pos (by simp; exact fun q => hr q.symm)]
          · rfl
      · simp only [if_neg k1, if_neg k2]
        have k3 : (decide (x.kind = 2) || decide (x.kind = 3)) = false := by simpa using k2
        simp [k3]
theorem undR_eq (p : List Ev) : undR p = und p := by
  induction p using snoc_ind with
  | h0 => rfl
  | h1 p x ih => rw [undR_snoc, und_snoc, ih]
end Tr
/- Traces: the answers, as the program and as the document reckon them. -/
namespace Tr
def ofB (job : Int) (x : Ev) : Bool := decide (job = -1) || decide (x.job = job)
theorem poss_at {jobs : Int} {p : List Ev} {x : Ev} (h : poss jobs p x = 0) : early p x = false ∧ (x.kind = 1 → x.run = last p + 1) ∧ ((x.kind = 2 ∨ x.kind = 3) → (und p).any (sameB x) = true) := by
  have hc := Ok.kinds h
  unfold poss at h
  rw [if_neg (by omega)] at h
  split at h
  · omega
  · split at h
    · omega
    · split at h
      · omega
      · rename_i h1 h2 h3
        refine ⟨by simpa using h2, fun k => ?_, fun k => ?_⟩
        · simp only [k, true_and] at h3; simpa using h3
        · split at h
          · omega
          · rename_i h4
            simp only [k, true_and] at h4
            simpa using h4
/-- What has ended is one of those under way. -/
theorem und_end {jobs : Int} {p : List Ev} {x : Ev} (h : Ok jobs p) (hx : poss jobs p x = 0) (k : x.kind = 2 ∨ x.kind = 3) :
    ∃ e, look (und p) x.run = some e ∧ e ∈ und p ∧ e.run = x.run ∧ e.job = x.job ∧ e.due = x.due ∧ e.att = x.att := by
  have h1 := (poss_at hx).2.2 k
  rw [any_look (last_nonneg p h).2.2.1] at h1
  cases he : look (und p) x.run with
  | none => rw [he] at h1; cases h1
  | some e =>
    rw [he] at h1
    simp only [Bool.and_eq_true, decide_eq_true_eq] at h1
    obtain ⟨m1, m2⟩ := look_mem he
    exact ⟨e, rfl, m1, m2, h1.1, h1.2.1, h1.2.2⟩
/-! Counting what is under way. -/
def cnt (job : Int) (L : List Ev) : Nat := L.countP (ofB job)
theorem cnt_filter {L : List Ev} (hp : L.Pairwise (fun a b => a.run < b.run)) {e : Ev} (he : e ∈ L) (job : Int) : cnt job (L.filter (fun a => a.run != e.run)) + (if ofB job e = true then 1 else 0) = cnt job L := by
  induction L with
  | nil => cases he
  | cons a L ih =>
    rw [List.pairwise_cons] at hp
    unfold cnt at *
    rcases List.mem_cons.1 he with h | h
    · subst h
      rw [List.filter_cons_of_neg (by simp), List.countP_cons]
      congr 1
      have : L.filter (fun a => a.run != e.run) = L := List.filter_eq_self.2 fun b hb => by
        have := hp.1 b hb; simp; omega
      rw [this]
    · have := hp.1 e h
      rw [List.filter_cons_of_pos (by simp; omega), List.countP_cons, List.countP_cons, ← ih hp.2 h]
      omega
/-- Most, as the program reckons it. -/
def mstep (job : Int) (s : Int × Int) (x : Ev) : Int × Int :=
  if (ofB job x && decide (x.kind ≤ 3)) = true then if x.kind = 1 then (s.1 + 1, max s.2 (s.1 + 1)) else (s.1 - 1, s.2) else s
def mfold (job : Int) (p : List Ev) : Int × Int := p.foldl (mstep job) (0, 0)
/-- .. and as the document does. -/
def mref (job : Int) (l : List Ev) : Nat → Int
  | 0 => 0
  | n + 1 => max (mref job l n) (cnt job (und (l.take n)))
theorem mfold_snoc (job : Int) (p : List Ev) (x : Ev) : mfold job (p ++ [x]) = mstep job (mfold job p) x := by simp [mfold]
theorem mref_take (job : Int) (l : List Ev) (m : Nat) : ∀ n, n ≤ m + 1 → mref job (l.take m) n = mref job l n
  | 0, _ => rfl
  | n + 1, h => by
    unfold mref
    rw [mref_take job l m n (by omega), List.take_take, Nat.min_eq_left (by omega)]
theorem mref_nonneg (job : Int) (l : List Ev) : ∀ n, 0 ≤ mref job l n
  | 0 => Int.le_refl _
  | n + 1 => by unfold mref; have := mref_nonneg job l n; omega
theorem most_eq {jobs : Int} (job : Int) (l : List Ev) (h : Ok jobs l) : (mfold job l).1 = cnt job (und l) ∧ (mfold job l).2 = mref job l (l.length + 1) := by
  induction l using snoc_ind with
  | h0 => simp [mfold, mref, cnt, und]
  | h1 p x ih =>
    obtain ⟨hp, hx⟩ := h.of_snoc
    obtain ⟨i1, i2⟩ := ih hp
    have hm : mref job (p ++ [x]) ((p ++ [x]).length + 1) = max (mref job p (p.length + 1)) (cnt job (und (p ++ [x]))) := by
      rw [List.length_append, List.length_singleton, mref, List.take_of_length_le (by simp)]
      congr 1
      have := mref_take job (p ++ [x]) p.length (p.length + 1) (by omega)
      rw [List.take_left' rfl] at this
      exact this.symm
    have hge : (cnt job (und p) : Int) ≤ mref job p (p.length + 1) := by
      rw [mref, List.take_of_length_le (Nat.le_refl _)]
      omega
    rw [hm, mfold_snoc, und_snoc]
    unfold mstep ustep
    have hk := chk_ok (Ok.kinds hx)
    by_cases k1 : x.kind = 1
    · have e : cnt job (und p ++ [x]) = cnt job (und p) + (if ofB job x = true then 1 else 0) := by unfold cnt; simp [List.countP_append]
      simp only [if_pos k1, e]
      by_cases ho : ofB job x = true
      · simp only [ho, k1, if_true]
        constructor
        · simp; omega
        · simp; omega
      · simp only [ho, if_false, Bool.false_and]
        simp
        omega
    · simp only [if_neg k1]
      by_cases k2 : x.kind = 2 ∨ x.kind = 3
      · obtain ⟨e, -, he, hr, hj, -, -⟩ := und_end hp hx k2
        have hof : ofB job e = ofB job x := by unfold ofB; rw [hj]
        have hc := cnt_filter (last_nonneg p hp).2.2.1 he job
        rw [hr, hof] at hc
        simp only [if_pos k2]
        have k3 : decide (x.kind ≤ 3) = true := by simp; omega
        by_cases ho : ofB job x = true
        · simp only [ho, k3, Bool.and_self, if_true] at hc ⊢
          omega
        · simp only [ho, if_false, Bool.false_and] at hc ⊢
          simp at hc ⊢
          omega
      · have k3 : decide (x.kind ≤ 3) = false := by simp; omega
        simp only [if_neg k2, k3, Bool.and_false]
        simp
        omega
/-! Times. -/
def launL (job : Int) (l : List Ev) : List Int := (l.filter fun x => decide (x.kind = 1) && ofB job x).map (·.t)
def dstep (job : Int) (m : Int) (x : Ev) : Int := if (decide (x.kind = 1) && (decide (x.att = 1) && ofB job x)) = true then max m (x.t - x.due) else m
def delay (job : Int) (l : List Ev) : Int := l.foldl (dstep job) 0
/-- Times do not decrease. -/
theorem early_le {jobs : Int} {p : List Ev} {x : Ev} (hp : Ok jobs p) (h : early p x = false) : (p.Pairwise fun a b => a.t ≤ b.t) → ∀ y ∈ p, y.t ≤ x.t := by
  intro hpw y hy
  unfold early at h
  cases hl : p.getLast? with
  | none => rw [List.getLast?_eq_none_iff] at hl; subst hl; cases hy
  | some z =>
    rw [hl] at h
    have hz : z.t ≤ x.t := by simpa using h
    obtain ⟨q, rfl⟩ := List.getLast?_eq_some_iff.1 hl
    rw [List.pairwise_append] at hpw
    rcases List.mem_append.1 hy with hy | hy
    · have := hpw.2.2 y hy z (by simp); omega
    · simp at hy; subst hy; exact hz
theorem Ok.times {jobs : Int} (l : List Ev) (h : Ok jobs l) : l.Pairwise fun a b => a.t ≤ b.t := by
  induction l using snoc_ind with
  | h0 => simp
  | h1 p x ih =>
    obtain ⟨hp, hx⟩ := h.of_snoc
    rw [List.pairwise_append]
    exact ⟨ih hp, by simp, fun a ha b hb => by simp at hb; subst hb; exact early_le hp (poss_at hx).1 (ih hp) a ha⟩
theorem Ok.each {jobs : Int} {l : List Ev} (h : Ok jobs l) {x : Ev} (hx : x ∈ l) : chk x = 0 := by
  obtain ⟨i, hi⟩ := List.getElem?_of_mem hx
  exact Ok.kinds (h i x hi)
/-! The events up to a time. -/
theorem prefix_eq {l : List Ev} (h : l.Pairwise fun a b => a.t ≤ b.t) (now : Int) : l.take (l.findIdx fun x => decide (now < x.t)) = l.filter fun x => decide (x.t ≤ now) := by
  induction l with
  | nil => rfl
  | cons a l ih =>
    rw [List.pairwise_cons] at h
    rw [List.findIdx_cons]
    by_cases ha : now < a.t
    · have h1 : decide (now < a.t) = true := by simpa using ha
      rw [h1, List.filter_cons_of_neg (by simpa using ha)]
      simp only [cond_true, List.take_zero]
      symm
      rw [List.filter_eq_nil_iff]
      intro b hb
      have := h.1 b hb
      simp; omega
    · have h1 : decide (now < a.t) = false := by simpa using ha
      rw [h1, List.filter_cons_of_pos (by simp; omega)]
      simp only [cond_false, List.take_succ_cons]
      rw [ih h.2]
/-! The first end of an occurrence. -/
def endB (job due : Int) (x : Ev) : Bool := (decide (x.kind = 2) || decide (x.kind = 5)) && (decide (x.job = job) && decide (x.due = due))
/-! Due times with a first outcome. -/
def firstB (job : Int) (x : Ev) : Bool := (decide (x.kind = 1) || decide (x.kind = 5)) && decide (x.job = job)
def ins (y : Int) : List Int → List Int
  | [] => [y]
  | a :: r => if a < y then a :: ins y r else if a = y then a :: r else y :: a :: r
def dues (job : Int) (l : List Ev) : List Int := (l.filter (firstB job)).map (·.due)
def firstsR (job : Int) (l : List Ev) : List Int := (dues job l).foldl (fun s y => ins y s) []
theorem mem_ins (y z : Int) (s : List Int) : z ∈ ins y s ↔ z = y ∨ z ∈ s := by
  induction s with
  | nil => simp [ins]
  | cons a r ih =>
    unfold ins
    split
    · simp only [List.mem_cons, ih]
      constructor
      · rintro (h | h | h)
        · exact .inr (.inl h)
        · exact .inl h
        · exact .inr (.inr h)
      · rintro (h | h | h)
        · exact .inr (.inl h)
        · exact .inl h
        · exact .inr (.inr h)
    · split
      · rename_i h1 h2; subst h2; simp
      · simp
theorem ins_sorted {y : Int} {s : List Int} (h : s.Pairwise (· < ·)) : (ins y s).Pairwise (· < ·) := by
  induction s with
  | nil => simp [ins]
  | cons a r ih =>
    rw [List.pairwise_cons] at h
    unfold ins
    split
    · rw [List.pairwise_cons]
      refine ⟨fun b hb => ?_, ih h.2⟩
      rcases (mem_ins _ _ _).1 hb with rfl | hb
      · assumption
      · exact h.1 b hb
    · split
      · rw [List.pairwise_cons]; exact h
      · rw [List.pairwise_cons]
        refine ⟨fun b hb => ?_, List.pairwise_cons.2 h⟩
        rcases List.mem_cons.1 hb with rfl | hb
        · omega
        · have := h.1 b hb; omega
theorem insAll (m : List Int) : ∀ s : List Int, s.Pairwise (· < ·) → (m.foldl (fun s y => ins y s) s).Pairwise (· < ·) ∧ ∀ z, z ∈ m.foldl (fun s y => ins y s) s ↔ z ∈ m ∨ z ∈ s := by
  induction m with
  | nil => intro s h; exact ⟨h, fun z => by simp⟩
  | cons a m ih =>
    intro s h
    obtain ⟨h1, h2⟩ := ih (ins a s) (ins_sorted h)
    refine ⟨h1, fun z => ?_⟩
    simp only [List.foldl_cons, h2, mem_ins, List.mem_cons]
    constructor
    · rintro (h | h | h)
      · exact .inl (.inr h)
      · exact .inl (.inl h)
      · exact .inr h
    · rintro ((h | h) | h)
      · exact .inr (.inl h)
      · exact .inl h
      · exact .inr (.inr h)
/-- Two strictly increasing lists of the same numbers are one. -/
theorem lt_ext : ∀ {a b : List Int}, a.Pairwise (· < ·) → b.Pairwise (· < ·) → (∀ z, z ∈ a ↔ z ∈ b) → a = b
  | [], [], _, _, _ => rfl
  | [], y :: b, _, _, h => by have := (h y).2 (by simp); cases this
  | x :: a, [], _, _, h => by have := (h x).1 (by simp); cases this
  | x :: a, y :: b, ha, hb, h => by
    rw [List.pairwise_cons] at ha hb
    have hxy : x = y := by
      have h1 := (h x).1 (by simp)
      have h2 := (h y).2 (by simp)
      rcases List.mem_cons.1 h1 with h1 | h1
      · exact h1
      · rcases List.mem_cons.1 h2 with h2 | h2
        · exact h2.symm
        · have := hb.1 x h1; have := ha.1 y h2; omega
    subst hxy
    rw [lt_ext ha.2 hb.2 fun z => ?_]
    constructor
    · intro hz
      rcases List.mem_cons.1 ((h z).1 (by simp [hz])) with rfl | h3
      · have := ha.1 z hz; omega
      · exact h3
    · intro hz
      rcases List.mem_cons.1 ((h z).2 (by simp [hz])) with rfl | h3
      · have := hb.1 z hz; omega
      · exact h3
/-- Equal neighbours are dropped. -/
def compact : List Int → List Int
  | [] => []
  | [a] => [a]
  | a :: b :: r => if a = b then compact (b :: r) else a :: compact (b :: r)
theorem mem_compact (z : Int) : ∀ l : List Int, z ∈ compact l ↔ z ∈ l
  | [] => by simp [compact]
  | [a] => by simp [compact]
  | a :: b :: r => by
    unfold compact
    split
    · rename_i h; subst h; rw [mem_compact z (a :: r)]; simp
    · rw [List.mem_cons, mem_compact z (b :: r), List.mem_cons (a := z) (b := a)]
theorem compact_sorted : ∀ {l : List Int}, l.Pairwise (· ≤ ·) → (compact l).Pairwise (· < ·)
  | [], _ => by simp [compact]
  | [a], _ => by simp [compact]
  | a :: b :: r, h => by
    rw [List.pairwise_cons] at h
    unfold compact
    split
    · exact compact_sorted h.2
    · rename_i hab
      rw [List.pairwise_cons]
      refine ⟨fun c hc => ?_, compact_sorted h.2⟩
      have h1 := h.1 b (by simp)
      rcases List.mem_cons.1 ((mem_compact c (b :: r)).1 hc) with rfl | hc
      · omega
      · have h2 := (List.pairwise_cons.1 h.2).1 c hc; omega
theorem firsts_eq {job : Int} {l : List Ev} {s : List Int} (hp : s.Perm (dues job l)) (hs : s.Pairwise (· ≤ ·)) : compact s = firstsR job l := by
  obtain ⟨h1, h2⟩ := insAll (dues job l) [] List.Pairwise.nil
  exact lt_ext (compact_sorted hs) h1 fun z => by rw [mem_compact, hp.mem_iff]; unfold firstsR; rw [h2]; simp
/-- Two sorted lists of the same numbers. -/
theorem perm_sorted {a b : List Int} (hp : a.Perm b) (ha : a.Pairwise (· ≤ ·)) (hb : b.Pairwise (· ≤ ·)) : a = b :=
  hp.eq_of_pairwise (fun x y _ _ h1 h2 => Int.le_antisymm h1 h2) ha hb
end Tr
/- Traces that are made from numbers: plain model. -/
namespace Tr
structure MS where
  out : List Ev
  under : List Ev
  t : Int
  run : Int
def MS.start : MS := ⟨[], [], 1000, 0⟩
def mt (s : MS) (x : Int) : Int := s.t + x / 16 % 4
def mjob (x : Int) : Int := x / 256 % 5
def mdue (s : MS) (x : Int) : Int := mt s x - x / 4096 % 200
def matt (x : Int) : Int := 1 + x / 1048576 % 4
/-- A launch. -/
def mlaunch (s : MS) (x : Int) : Ev := ⟨1, mt s x, mjob x, mdue s x, matt x, s.run + 1, 0, 0⟩
def mend (s : MS) (x : Int) (e : Ev) : Ev := { e with kind := 2 + x / 16777216 % 2, t := mt s x }
def mother (s : MS) (x : Int) : Ev :=
  if x % 16 ≤ 11 then ⟨4, mt s x, mjob x, mdue s x, matt x + 1, 0, 0, mt s x + 1 + x / 16777216⟩ else
  if x % 16 ≤ 13 then ⟨5, mt s x, mjob x, mdue s x, matt x, 0, 1 + x / 16777216 % 6, 0⟩ else
  if x % 16 = 14 then ⟨6, mt s x, 0, 0, 0, 0, 1 + x / 16777216 % 16, 0⟩ else
  if x / 16777216 % 2 = 0 then ⟨7, mt s x, mjob x, 0, 0, 0, 0, mt s x + 1 + x / 4096⟩ else ⟨8, mt s x, mjob x, 0, 0, 0, 0, 0⟩
def mkth (s : MS) (x : Int) : Nat := ((x / 256) % (s.under.length : Int)).toNat
def mkstep (s : MS) (x : Int) : MS :=
  if x % 16 ≤ 5 then ⟨s.out ++ [mlaunch s x], s.under ++ [mlaunch s x], mt s x, s.run + 1⟩ else
  if x % 16 ≤ 9 then
    match s.under[mkth s x]? with
    | none => { s with t := mt s x }
    | some e => ⟨s.out ++ [mend s x e], s.under.eraseIdx (mkth s x), mt s x, s.run⟩
  else ⟨s.out ++ [mother s x], s.under, mt s x, s.run⟩
def mrun (l : List Int) : MS := l.foldl mkstep MS.start
def made (l : List Int) : List Ev := (mrun (l.take 200)).out
theorem mrun_snoc (l : List Int) (x : Int) : mrun (l ++ [x]) = mkstep (mrun l) x := by simp [mrun]
/-- A number of 32 bits. -/
def U32 (l : List Int) : Prop := ∀ x ∈ l, 0 ≤ x ∧ x < 4294967296
/-- The bounds of what is made. -/
def Small (e : Ev) : Prop := 1000 ≤ e.t ∧ e.t ≤ 1600 ∧ 0 ≤ e.job ∧ e.job ≤ 4 ∧ 0 ≤ e.due ∧ e.due ≤ e.t ∧ 0 ≤ e.att ∧ e.att ≤ 5 ∧ 0 ≤ e.run ∧ e.run ≤ 200 ∧ 0 ≤ e.why ∧ e.why ≤ 16 ∧ 0 ≤ e.whn ∧ e.whn ≤ 4294970000 ∧ (e.kind ≤ 5 → 801 ≤ e.due) ∧ (e.kind ≤ 3 → e.att ≤ 4)
structure MOk (n : Nat) (s : MS) : Prop where
  ok : Ok 5 s.out
  und : und s.out = s.under
  last : last s.out = s.run
  t0 : 1000 ≤ s.t
  t1 : s.t ≤ 1000 + 3 * n
  run1 : s.run ≤ n
  len : s.out.length ≤ n
  le : ∀ e ∈ s.out, e.t ≤ s.t
  small : ∀ e ∈ s.out, Small e
theorem filter_erase {L : List Ev} (hp : L.Pairwise (fun a b => a.run < b.run)) {k : Nat} {e : Ev} (he : L[k]? = some e) : L.filter (fun a => a.run != e.run) = L.eraseIdx k := by
  induction L generalizing k with
  | nil => simp at he
  | cons a L ih =>
    rw [List.pairwise_cons] at hp
    cases k with
    | zero =>
      simp at he; subst he
      rw [List.filter_cons_of_neg (by simp)]
      simp only [List.eraseIdx_cons_zero]
      exact List.filter_eq_self.2 fun b hb => by have := hp.1 b hb; simp; omega
    | succ k =>
      simp at he
      have := hp.1 e (List.mem_of_getElem? he)
      rw [List.filter_cons_of_pos (by simp; omega), ih hp.2 he]
      rfl
theorem poss_mk {jobs : Int} {p : List Ev} {x : Ev} (h1 : chk x = 0) (h2 : x.kind = 6 ∨ x.job < jobs) (h3 : early p x = false) (h4 : x.kind = 1 → x.run = last p + 1) (h5 : (x.kind = 2 ∨ x.kind = 3) → (und p).any (sameB x) = true) : poss jobs p x = 0 := by
  unfold poss
  rw [if_neg (by omega), if_neg (by omega), if_neg (by rw [h3]; decide), if_neg (by intro ⟨a, b⟩; exact b (h4 a)), if_neg (by intro ⟨a, b⟩; rw [h5 a] at b; cases b)]
theorem early_of {p : List Ev} {x : Ev} (h : ∀ e ∈ p, e.t ≤ x.t) : early p x = false := by
  unfold early
  cases hl : p.getLast? with
  | none => rfl
  | some y =>
    have := h y (List.mem_of_getLast? hl)
    simpa using this
theorem chk_mk {e : Ev} (h1 : 1 ≤ e.kind ∧ e.kind ≤ 8) (h2 : 0 ≤ e.t ∧ e.t ≤ 253402300799) (h3 : e.kind ≤ 5 → 0 ≤ e.due ∧ e.due ≤ 253402300799) (h4 : fits e = true) : chk e = 0 := by
  unfold chk
  rw [if_neg (by omega), if_neg (by
    simp only [vt, Bool.and_eq_false_iff, decide_eq_false_iff_not]
    omega), if_pos h4]
theorem MOk.snoc {n : Nat} {s : MS} (h : MOk n s) (hn : n < 200) {x : Int} (hx : 0 ≤ x ∧ x < 4294967296) {e : Ev} {u : List Ev} {r : Int} (he : e.t = mt s x) (h1 : poss 5 s.out e = 0) (h2 : ustep s.under e = u) (h3 : lstep s.run e = r) (h4 : r ≤ n + 1) (h5 : Small e) : MOk (n + 1) ⟨s.out ++ [e], u, mt s x, r⟩ where
  ok := h.ok.snoc h1
  und := by rw [und_snoc, h.und, h2]
  last := by rw [last_snoc, h.last, h3]
  t0 := by have := h.t0; show 1000 ≤ mt s x; unfold mt; omega
  t1 := by have := h.t1; show mt s x ≤ _; unfold mt; omega
  run1 := by show r ≤ _; omega
  len := by have := h.len; simp; exact h.len
  le := fun y hy => by
    show y.t ≤ mt s x
    rcases List.mem_append.1 hy with hy | hy
    · have := h.le y hy; unfold mt; omega
    · simp at hy; subst hy; omega
  small := fun y hy => by
    rcases List.mem_append.1 hy with hy | hy
    · exact h.small y hy
    · simp at hy; subst hy; exact h5
theorem fits_mk {e : Ev} (h1 : e.kind = 6 → e.job = 0) (h2 : e.kind ≠ 6 → 0 ≤ e.job ∧ e.job ≤ 63) (h3 : e.kind ≤ 5 → 0 ≤ e.due ∧ e.due ≤ e.t ∧ 1 ≤ e.att ∧ e.att ≤ 21) (h4 : ¬ e.kind ≤ 5 → e.due = 0 ∧ e.att = 0) (h5 : e.kind = 4 → 2 ≤ e.att)
    (h6 : e.kind ≤ 3 → 1 ≤ e.run) (h7 : ¬ e.kind ≤ 3 → e.run = 0) (h8 : e.kind = 4 ∨ e.kind = 7 → e.t + 1 ≤ e.whn ∧ e.whn ≤ 4611686018427387904) (h9 : ¬ (e.kind = 4 ∨ e.kind = 7) → e.whn = 0)
    (h10 : e.kind = 5 ∨ e.kind = 6 → 1 ≤ e.why ∧ e.why ≤ mostWhy e.kind) (h11 : ¬ (e.kind = 5 ∨ e.kind = 6) → e.why = 0) : fits e = true := by
  unfold fits
  simp only [Bool.and_eq_true]
  refine ⟨⟨⟨⟨⟨?_, ?_⟩, ?_⟩, ?_⟩, ?_⟩, ?_⟩
  · by_cases h : e.kind = 6
    · rw [if_pos h]; simpa using h1 h
    · rw [if_neg h]; simpa using h2 h
  · by_cases h : e.kind ≤ 5
    · rw [if_pos h]; have := h3 h; simpa using ⟨this.1, this.2.1⟩
    · rw [if_neg h]; simpa using (h4 h).1
  · by_cases h : e.kind ≤ 5
    · rw [if_pos h]; have := h3 h
      by_cases h' : e.kind = 4
      · rw [if_pos h']; simpa using ⟨h5 h', this.2.2.2⟩
      · rw [if_neg h']; simpa using ⟨this.2.2.1, this.2.2.2⟩
    · rw [if_neg h]; simpa using (h4 h).2
  · by_cases h : e.kind ≤ 3
    · rw [if_pos h]; simpa using h6 h
    · rw [if_neg h]; simpa using h7 h
  · by_cases h : e.kind = 4 ∨ e.kind = 7
    · rw [if_pos h]; simpa using h8 h
    · rw [if_neg h]; simpa using h9 h
  · by_cases h : e.kind = 5 ∨ e.kind = 6
    · rw [if_pos h]; simpa using h10 h
    · rw [if_neg h]; simpa using h11 h
theorem mkstep_ok {n : Nat} {s : MS} (h : MOk n s) (hn : n < 200) {x : Int} (hx : 0 ≤ x ∧ x < 4294967296) : MOk (n + 1) (mkstep s x) := by
  have ht0 := h.t0
  have ht1 := h.t1
  have hr1 := h.run1
  have hr0 := (last_nonneg s.out h.ok).1
  rw [h.last] at hr0
  have hle : ∀ e ∈ s.out, e.t ≤ mt s x := fun e he => by have := h.le e he; unfold mt; omega
  have hm : 1000 ≤ mt s x ∧ mt s x ≤ 1600 := by unfold mt; omega
  have hj : 0 ≤ mjob x ∧ mjob x ≤ 4 := by unfold mjob; omega
  have hd : mt s x - 199 ≤ mdue s x ∧ mdue s x ≤ mt s x := by unfold mdue; omega
  have ha : 1 ≤ matt x ∧ matt x ≤ 4 := by unfold matt; omega
  unfold mkstep
  split
  · refine h.snoc hn hx rfl (poss_mk (chk_mk (by simp [mlaunch]) (by simp only [mlaunch]; omega) (by simp only [mlaunch]; omega) ?_) (.inr (by simp only [mlaunch]; omega)) (early_of hle) (by simp [mlaunch, h.last]) (by simp [mlaunch])) (by simp [ustep, mlaunch]) (by simp [lstep, mlaunch]) (by omega) ?_
    · refine fits_mk ?_ ?_ ?_ ?_ ?_ ?_ ?_ ?_ ?_ ?_ ?_ <;> simp only [mlaunch] <;> first | omega | (intro h; omega) | (simp; done)
    · simp only [Small, mlaunch]; omega
  · split
    · split
      · exact ⟨h.ok, h.und, h.last, by show 1000 ≤ mt s x; omega, by show mt s x ≤ _; unfold mt; omega, by show s.run ≤ _; omega, by have := h.len; show s.out.length ≤ _; omega, hle, h.small⟩
      · rename_i e he
        have hu : e ∈ Tr.und s.out := by rw [h.und]; exact List.mem_of_getElem? he
        obtain ⟨k1, r1, r2, hmem⟩ := (last_nonneg s.out h.ok).2.2.2 e hu
        have hce := chk_ok (h.ok.each hmem)
        have hs := h.small e hmem
        have hte := h.le e hmem
        have hfit := hce.2.2.2.2
        rw [h.last] at r2
        have hk : (mend s x e).kind = 2 ∨ (mend s x e).kind = 3 := by simp only [mend]; omega
        unfold Small at hs
        have htm : e.t ≤ mt s x := by unfold mt; omega
        have hf : 1 ≤ e.att ∧ e.why = 0 ∧ e.whn = 0 := by simp [fits, k1] at hfit; omega
        refine h.snoc hn hx rfl (poss_mk (chk_mk (by omega) (by simp only [mend]; omega) (by simp only [mend]; omega) ?_) (.inr (by simp only [mend]; omega)) (early_of hle) (by intro q; omega) (fun _ => ?_)) ?_ ?_ (by omega) ?_
        · refine fits_mk ?_ ?_ ?_ ?_ ?_ ?_ ?_ ?_ ?_ ?_ ?_ <;> simp only [mend] at hk ⊢ <;> first | omega | (intro h; omega)
        · rw [List.any_eq_true]
          exact ⟨e, hu, by simp [sameB, mend]⟩
        · unfold ustep
          rw [if_neg (by omega), if_pos hk]
          have hpw := (last_nonneg s.out h.ok).2.2.1
          rw [h.und] at hpw
          exact filter_erase (e := e) hpw he
        · unfold lstep; rw [if_neg (by omega)]
        · unfold Small; simp only [mend] at hk ⊢; omega
    · have hk : (mother s x).kind ≠ 1 ∧ (mother s x).kind ≠ 2 ∧ (mother s x).kind ≠ 3 := by unfold mother; repeat (first | split | simp)
      refine h.snoc hn hx (by unfold mother; repeat (first | split | rfl)) (poss_mk ?_ ?_ (early_of (by intro e he; have := hle e he; unfold mother; repeat (first | split | exact this))) (fun q => absurd q hk.1) (fun q => by omega)) (by unfold ustep; rw [if_neg hk.1, if_neg (by omega)]) (by unfold lstep; rw [if_neg hk.1]) (by omega) ?_
      · unfold mother
        split
        · refine chk_mk (by simp) (by simp only []; omega) (by simp only []; omega) ?_
          refine fits_mk ?_ ?_ ?_ ?_ ?_ ?_ ?_ ?_ ?_ ?_ ?_ <;> simp only [] <;> first | omega | (simp [mostWhy]; done) | (simp [mostWhy]; omega)
        · split
          · refine chk_mk (by simp) (by simp only []; omega) (by simp only []; omega) ?_
            refine fits_mk ?_ ?_ ?_ ?_ ?_ ?_ ?_ ?_ ?_ ?_ ?_ <;> simp only [] <;> first | omega | (simp [mostWhy]; done) | (simp [mostWhy]; omega)
          · split
            · refine chk_mk (by simp) (by simp only []; omega) (by simp) ?_
              refine fits_mk ?_ ?_ ?_ ?_ ?_ ?_ ?_ ?_ ?_ ?_ ?_ <;> simp only [] <;> first | omega | (simp [mostWhy]; done) | (simp [mostWhy]; omega)
            · split
              · refine chk_mk (by simp) (by simp only []; omega) (by simp) ?_
                refine fits_mk ?_ ?_ ?_ ?_ ?_ ?_ ?_ ?_ ?_ ?_ ?_ <;> simp only [] <;> first | omega | (simp [mostWhy]; done) | (simp [mostWhy]; omega)
              · refine chk_mk (by simp) (by simp only []; omega) (by simp) ?_
                refine fits_mk ?_ ?_ ?_ ?_ ?_ ?_ ?_ ?_ ?_ ?_ ?_ <;> simp only [] <;> first | omega | (simp [mostWhy]; done) | (simp [mostWhy]; omega)
      · unfold mother
        repeat (first | split | (right; simp only []; omega) | (left; rfl))
      · unfold mother
        repeat (first | split | (simp only [Small]; omega))
theorem mrun_ok (l : List Int) (hl : l.length ≤ 200) (h : U32 l) : MOk l.length (mrun l) := by
  have : ∀ m : List Int, m.reverse.length ≤ 200 → U32 m.reverse → MOk m.reverse.length (mrun m.reverse) := by
    intro m
    induction m with
    | nil => intro _ _; exact ⟨Ok.nil _, rfl, rfl, by decide, by decide, by decide, by decide, (fun e he => by cases he), (fun e he => by cases he)⟩
    | cons a m ih =>
      intro h1 h2
      rw [List.reverse_cons] at h1 h2 ⊢
      rw [mrun_snoc, List.length_append, List.length_singleton]
      simp at h1
      refine mkstep_ok (ih (by simp; omega) fun x hx => h2 x (List.mem_append_left _ hx)) (by simp; omega) (h2 a (by simp))
  simpa using this l.reverse (by simpa using hl) (by simpa using h)
theorem made_ok {l : List Int} (h : U32 l) : Ok 5 (made l) ∧ (made l).length ≤ 200 ∧ ∀ e ∈ made l, Small e := by
  have h1 := mrun_ok (l.take 200) (by rw [List.length_take]; omega) fun x hx => h x (List.mem_of_mem_take hx)
  exact ⟨h1.ok, by have := h1.len; rw [List.length_take] at this; show (mrun (l.take 200)).out.length ≤ 200; omega, h1.small⟩
end Tr
/- What the walk finds out, case by case. -/
namespace Tr
theorem early_zero (l : List Ev) (x : Ev) : early (l.take 0) x = false := by simp [early]
theorem early_succ {l : List Ev} {k : Nat} {x y : Ev} (hy : l[k]? = some y) : early (l.take (k + 1)) x = decide (x.t < y.t) := by
  have hk := (List.getElem?_eq_some_iff.1 hy).1
  have : (l.take (k + 1)).getLast? = some y := by
    rw [List.take_succ_eq_append_getElem hk, List.getLast?_append, ← hy]
    simp [List.getElem?_eq_getElem hk]
  unfold early
  rw [this]
theorem poss_chk {jobs : Int} {p : List Ev} {x : Ev} (h : chk x ≠ 0) : poss jobs p x = chk x := by unfold poss; rw [if_pos h]
theorem poss_job {jobs : Int} {p : List Ev} {x : Ev} (h : chk x = 0) (h1 : x.kind ≠ 6) (h2 : jobs ≤ x.job) : poss jobs p x = 3 := by unfold poss; rw [if_neg (by omega), if_pos ⟨h1, h2⟩]
theorem poss_early {jobs : Int} {p : List Ev} {x : Ev} (h : chk x = 0) (h1 : x.kind = 6 ∨ x.job < jobs) (h2 : early p x = true) : poss jobs p x = 8 := by unfold poss; rw [if_neg (by omega), if_neg (by omega), if_pos h2]
theorem poss_launch {jobs : Int} {p : List Ev} {x : Ev} (h : chk x = 0) (h1 : x.kind = 6 ∨ x.job < jobs) (h2 : early p x = false) (h3 : x.kind = 1) : poss jobs p x = if x.run = last p + 1 then 0 else 8 := by
  unfold poss
  rw [if_neg (by omega), if_neg (by omega), if_neg (by rw [h2]; decide)]
  by_cases h4 : x.run = last p + 1
  · rw [if_neg (by intro ⟨_, b⟩; exact b h4), if_pos h4, if_neg (by intro ⟨a, _⟩; omega)]
  · rw [if_pos ⟨h3, h4⟩, if_neg h4]
theorem poss_end {jobs : Int} {p : List Ev} {x : Ev} (h : chk x = 0) (h1 : x.kind = 6 ∨ x.job < jobs) (h2 : early p x = false) (h3 : x.kind = 2 ∨ x.kind = 3) : poss jobs p x = if (und p).any (sameB x) = true then 0 else 8 := by
  unfold poss
  rw [if_neg (by omega), if_neg (by omega), if_neg (by rw [h2]; decide), if_neg (by intro ⟨a, _⟩; omega)]
  by_cases h4 : (und p).any (sameB x) = true
  · rw [if_neg (by intro ⟨_, b⟩; rw [h4] at b; cases b), if_pos h4]
  · rw [if_pos ⟨h3, by simpa using h4⟩, if_neg h4]
theorem poss_rest {jobs : Int} {p : List Ev} {x : Ev} (h : chk x = 0) (h1 : x.kind = 6 ∨ x.job < jobs) (h2 : early p x = false) (h3 : x.kind ≠ 1) (h4 : ¬ (x.kind = 2 ∨ x.kind = 3)) : poss jobs p x = 0 := by
  unfold poss
  rw [if_neg (by omega), if_neg (by omega), if_neg (by rw [h2]; decide), if_neg (by intro ⟨a, _⟩; exact h3 a), if_neg (by intro ⟨a, _⟩; exact h4 a)]
/-- The ends of the walk. -/
theorem walk_bad {jobs : Int} {l : List Ev} {j : Nat} {x : Ev} {e : Int} (hx : l[j]? = some x) (hok : Ok jobs (l.take j)) (hp : poss jobs (l.take j) x = e) (he : e ≠ 0) : chkFrom jobs [] l = ((j : Int), e) := by
  rw [chkFrom_at hx hok (by rw [hp]; exact he), hp]
theorem take_snoc' {l : List Ev} {j : Nat} {x : Ev} (hx : l[j]? = some x) : l.take (j + 1) = l.take j ++ [x] := by
  have hj := (List.getElem?_eq_some_iff.1 hx).1
  rw [List.take_succ_eq_append_getElem hj]
  rw [List.getElem?_eq_getElem hj] at hx
  injection hx with hx
  rw [hx]
theorem walk_good {jobs : Int} {l : List Ev} {j : Nat} {x : Ev} (hx : l[j]? = some x) (hok : Ok jobs (l.take j)) (hp : poss jobs (l.take j) x = 0) : Ok jobs (l.take (j + 1)) ∧ last (l.take (j + 1)) = lstep (last (l.take j)) x ∧ und (l.take (j + 1)) = ustep (und (l.take j)) x := by
  rw [take_snoc' hx]
  exact ⟨hok.snoc hp, last_snoc _ _, und_snoc _ _⟩
/-- The test of the program. -/
theorem any_some {L : List Ev} (hp : L.Pairwise (fun a b => a.run < b.run)) {x e : Ev} (h : look L x.run = some e) : L.any (sameB x) = (decide (e.job = x.job) && (decide (e.due = x.due) && decide (e.att = x.att))) := by rw [any_look hp, h]
theorem any_none {L : List Ev} (hp : L.Pairwise (fun a b => a.run < b.run)) {x : Ev} (h : look L x.run = none) : L.any (sameB x) = false := by rw [any_look hp, h]
end Tr
/- What is under way, round by round. -/
namespace Tr
def endsB (x y : Ev) : Bool := (decide (y.kind = 2) || decide (y.kind = 3)) && decide (y.run = x.run)
/-- Ended among l[i+1 .. k). -/
def endedB (l : List Ev) (x : Ev) (i k : Nat) : Bool := ((l.take k).drop (i + 1)).any (endsB x)
theorem endedB_start (l : List Ev) (x : Ev) (i : Nat) : endedB l x i (i + 1) = false := by
  unfold endedB
  rw [List.drop_eq_nil_of_le (by rw [List.length_take]; omega)]
  rfl
theorem endedB_succ {l : List Ev} {x y : Ev} {i k : Nat} (hk : i + 1 ≤ k) (hy : l[k]? = some y) : endedB l x i (k + 1) = (endedB l x i k || endsB x y) := by
  unfold endedB
  rw [take_snoc' hy, List.drop_append_of_le_length (by have := (List.getElem?_eq_some_iff.1 hy).1; rw [List.length_take]; omega), List.any_append]
  simp
def pickB (p : List Ev) (x : Ev) (i : Nat) : Bool := decide (x.kind = 1) && !(p.drop (i + 1)).any (endsB x)
def undK (p : List Ev) : Nat → List Ev
  | 0 => []
  | k + 1 => match p[k]? with
    | some x => if pickB p x k = true then undK p k ++ [x] else undK p k
    | none => undK p k
theorem undK_succ {p : List Ev} {k : Nat} {x : Ev} (h : p[k]? = some x) : undK p (k + 1) = if pickB p x k = true then undK p k ++ [x] else undK p k := by
  rw [undK, h]
theorem undK_len (p : List Ev) : ∀ k, (undK p k).length ≤ k
  | 0 => Nat.le_refl _
  | k + 1 => by
    have := undK_len p k
    rw [undK]
    split
    · split
      · rw [List.length_append, List.length_singleton]; omega
      · omega
    · omega
theorem undK_drop (p : List Ev) : ∀ k, k ≤ p.length → undK p k ++ undR (p.drop k) = undR p
  | 0, _ => rfl
  | k + 1, h => by
    have hk : p[k]? = some p[k] := List.getElem?_eq_getElem h
    rw [undK_succ hk, ← undK_drop p k (by omega), List.drop_eq_getElem_cons h]
    conv => rhs; rw [undR]
    have e : pickB p p[k] k = true ↔ (p[k].kind = 1 ∧ (p.drop (k + 1)).any (fun y => (decide (y.kind = 2) || decide (y.kind = 3)) && decide (y.run = p[k].run)) = false) := by
      unfold pickB
      rw [Bool.and_eq_true, decide_eq_true_eq, Bool.not_eq_true']
      exact Iff.rfl
    by_cases hp : pickB p p[k] k = true
    · rw [if_pos hp, if_pos (e.1 hp), List.append_assoc]; rfl
    · rw [if_neg hp, if_neg (fun q => hp (e.2 q))]
theorem undK_all (p : List Ev) : undK p p.length = und p := by
  have := undK_drop p p.length (Nat.le_refl _)
  rw [List.drop_length] at this
  rw [← undR_eq, ← this]
  simp [undR]
end Tr
