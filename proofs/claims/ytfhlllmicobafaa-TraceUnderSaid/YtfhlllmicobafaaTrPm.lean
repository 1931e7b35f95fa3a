/- TrPm: texts for the statements of this seat: contracts of functions, walks, plain laws. Conditions: none. -/
import Derived.Test.YtfhlllmicobafaaTrPl
set_option linter.all false
/- A spoilt event is found: plain law. -/
namespace Tr
theorem fits_un {e : Ev} (h : fits e = true) : ((e.kind = 6 → e.job = 0) ∧ (e.kind ≠ 6 → 0 ≤ e.job ∧ e.job ≤ 63)) ∧ ((e.kind ≤ 5 → 0 ≤ e.due ∧ e.due ≤ e.t) ∧ (¬ e.kind ≤ 5 → e.due = 0)) ∧ ((e.kind ≤ 5 → 1 ≤ e.att ∧ e.att ≤ 21) ∧ (e.kind = 4 → 2 ≤ e.att) ∧ (¬ e.kind ≤ 5 → e.att = 0))
    ∧ ((e.kind ≤ 3 → 1 ≤ e.run) ∧ (¬ e.kind ≤ 3 → e.run = 0)) ∧ ((e.kind = 4 ∨ e.kind = 7 → e.t + 1 ≤ e.whn ∧ e.whn ≤ 4611686018427387904) ∧ (¬ (e.kind = 4 ∨ e.kind = 7) → e.whn = 0))
    ∧ ((e.kind = 5 ∨ e.kind = 6 → 1 ≤ e.why ∧ e.why ≤ mostWhy e.kind) ∧ (¬ (e.kind = 5 ∨ e.kind = 6) → e.why = 0)) := by
  unfold fits at h
  simp only [Bool.and_eq_true] at h
  obtain ⟨⟨⟨⟨⟨h1, h2⟩, h3⟩, h4⟩, h5⟩, h6⟩ := h
  refine ⟨⟨fun k => ?_, fun k => ?_⟩, ⟨fun k => ?_, fun k => ?_⟩, ⟨fun k => ?_, fun k => ?_, fun k => ?_⟩, ⟨fun k => ?_, fun k => ?_⟩, ⟨fun k => ?_, fun k => ?_⟩, fun k => ?_, fun k => ?_⟩
  · rw [if_pos k] at h1; simpa using h1
  · rw [if_neg k] at h1; simpa using h1
  · rw [if_pos k] at h2; simpa using h2
  · rw [if_neg k] at h2; simpa using h2
  · rw [if_pos k] at h3
    simp only [Bool.and_eq_true, decide_eq_true_eq] at h3
    refine ⟨?_, h3.2⟩
    have := h3.1
    split at this <;> omega
  · rw [if_pos (by omega), if_pos k] at h3
    simp only [Bool.and_eq_true, decide_eq_true_eq] at h3
    exact h3.1
  · rw [if_neg k] at h3; simpa using h3
  · rw [if_pos k] at h4; simpa using h4
  · rw [if_neg k] at h4; simpa using h4
  · rw [if_pos k] at h5; simpa using h5
  · rw [if_neg k] at h5; simpa using h5
  · rw [if_pos k] at h6; simpa using h6
  · rw [if_neg k] at h6; simpa using h6
theorem mostWhy_le (k : Int) : mostWhy k ≤ 16 := by unfold mostWhy; split <;> (try split) <;> omega
theorem poss_wide {p : List Ev} {x : Ev} {a b : Int} (hab : a ≤ b) (h : poss a p x = 0) : poss b p x = 0 := by
  have hc := Ok.kinds h
  have h1 := poss_at h
  have hj : x.kind = 6 ∨ x.job < a := by
    unfold poss at h
    rw [if_neg (by omega)] at h
    split at h
    · omega
    · omega
  exact poss_mk hc (by omega) h1.1 h1.2.1 h1.2.2
theorem Ok.wide {a b : Int} (hab : a ≤ b) {l : List Ev} (h : Ok a l) : Ok b l := fun i x hx => poss_wide hab (h i x hx)
/-- What the law says of a spoilt event. -/
structure SpOk (t : List Ev) (k : Nat) (x : Ev) (want : Int) : Prop where
  c : check 5 (t.set k x) = ((k : Int), want)
  n : want ≠ 0
  r : want = 3 ∨ bad 64 (t.set k x) = want
theorem spOk {t : List Ev} {k : Nat} {x : Ev} {want : Int} (hok : Ok 5 t) (hk : k < t.length) (hne : want ≠ 0) (hp : poss 5 (t.take k) x = want) (h64 : want = 3 ∨ poss 64 (t.take k) x = want) : SpOk t k x want where
  n := hne
  c := by
    unfold check
    rw [if_neg (by omega)]
    have ht : (t.set k x).take k = t.take k := by rw [List.take_set_of_le (Nat.le_refl _)]
    have := chkFrom_at (jobs := 5) (l := t.set k x) (i := k) (x := x) (by simp [hk]) (by rw [ht]; exact hok.take k) (by rw [ht, hp]; exact hne)
    rw [this, ht, hp]
  r := by
    rcases h64 with h | h
    · exact .inl h
    · right
      have ht : (t.set k x).take k = t.take k := by rw [List.take_set_of_le (Nat.le_refl _)]
      have := chkFrom_at (jobs := 64) (l := t.set k x) (i := k) (x := x) (by simp [hk]) (by rw [ht]; exact (hok.wide (by omega)).take k) (by rw [ht, h]; exact hne)
      unfold bad
      rw [this, ht, h]
theorem chk_two {e : Ev} (h1 : 1 ≤ e.kind ∧ e.kind ≤ 8) (h2 : 0 ≤ e.t ∧ e.t ≤ 253402300799) (h3 : e.kind ≤ 5 → 0 ≤ e.due ∧ e.due ≤ 253402300799) (h4 : fits e = false) : chk e = 2 := by
  unfold chk
  rw [if_neg (by omega), if_neg (by
    simp only [vt, Bool.and_eq_false_iff, decide_eq_false_iff_not]
    omega), if_neg (by rw [h4]; decide)]
section
variable {t : List Ev} {k : Nat} {x : Ev}
structure Sit (t : List Ev) (k : Nat) (x : Ev) : Prop where
  ok : Ok 5 t
  len : t.length ≤ 200
  small : ∀ e ∈ t, Small e
  at_ : t[k]? = some x
theorem Sit.lt (h : Sit t k x) : k < t.length := (List.getElem?_eq_some_iff.1 h.at_).1
theorem Sit.p (h : Sit t k x) : poss 5 (t.take k) x = 0 := h.ok k x h.at_
theorem Sit.f (h : Sit t k x) : 1 ≤ x.kind ∧ x.kind ≤ 8 ∧ fits x = true ∧ Small x := by
  have := chk_ok (Ok.kinds h.p)
  exact ⟨this.1, this.2.1, this.2.2.2.2, h.small x (List.mem_of_getElem? h.at_)⟩
theorem Sit.chk2 (h : Sit t k x) {y : Ev} (hy : chk y = 2) : SpOk t k y 2 := spOk h.ok h.lt (by omega) (by rw [poss_chk (by omega), hy]) (.inr (by rw [poss_chk (by omega), hy]))
theorem Sit.sp0 (h : Sit t k x) : SpOk t k { x with t := -1 } 14 := by
  have hf := h.f
  have hc : chk { x with t := -1 } = 14 := by
    unfold chk
    rw [if_neg (by simp only []; omega), if_pos (by left; simp [vt])]
  exact spOk h.ok h.lt (by omega) (by rw [poss_chk (by omega), hc]) (.inr (by rw [poss_chk (by omega), hc]))
theorem Sit.sp1 (h : Sit t k x) : SpOk t k { x with kind := 9 } 2 := h.chk2 (by unfold chk; rw [if_pos (by simp)])
theorem Sit.sp2 (h : Sit t k x) (h6 : x.kind ≠ 6) : SpOk t k { x with job := 5 } 3 := by
  obtain ⟨h1, h2, hf, hs⟩ := h.f
  have hu := fits_un hf
  unfold Small at hs
  refine spOk h.ok h.lt (by omega) (poss_job (chk_mk ⟨h1, h2⟩ (by simp only []; omega) (by simp only []; omega) ?_) h6 (by simp only []; omega)) (.inl rfl)
  refine fits_mk ?_ ?_ ?_ ?_ ?_ ?_ ?_ ?_ ?_ ?_ ?_ <;> simp only [] <;> omega
theorem Sit.sp3 (h : Sit t (k + 1) x) {y : Ev} (hy : t[k]? = some y) : 999 ≤ y.t - 1 ∧ y.t ≤ 1600 ∧ (x.kind ≤ 5 ∧ y.t - 1 < x.due → SpOk t (k + 1) { x with t := y.t - 1 } 2) ∧ (¬ (x.kind ≤ 5 ∧ y.t - 1 < x.due) → SpOk t (k + 1) { x with t := y.t - 1 } 8) := by
  obtain ⟨h1, h2, hf, hs⟩ := h.f
  have hu := fits_un hf
  have hsy := h.small y (List.mem_of_getElem? hy)
  have he := (poss_at h.p).1
  rw [early_succ hy] at he
  have he : y.t ≤ x.t := by simpa using he
  unfold Small at hs hsy
  refine ⟨by omega, by omega, fun q => h.chk2 (chk_two ⟨h1, h2⟩ (by simp only []; omega) (by simp only []; omega) ?_), fun q => ?_⟩
  · cases hb : fits { x with t := y.t - 1 } with
    | false => rfl
    | true =>
      have := fits_un hb
      simp only [] at this
      omega
  · have hc : chk { x with t := y.t - 1 } = 0 := by
      refine chk_mk ⟨h1, h2⟩ (by simp only []; omega) (by simp only []; omega) ?_
      refine fits_mk ?_ ?_ ?_ ?_ ?_ ?_ ?_ ?_ ?_ ?_ ?_ <;> simp only [] <;> omega
    have hea : early (t.take (k + 1)) { x with t := y.t - 1 } = true := by
      rw [early_succ hy]
      simp only [decide_eq_true_eq]
      omega
    exact spOk h.ok h.lt (by omega) (poss_early hc (by simp only []; omega) hea) (.inr (poss_early hc (by simp only []; omega) hea))
theorem Sit.sp4 (h : Sit t k x) (h3 : x.kind ≤ 3) : SpOk t k { x with run := x.run + 1000 } 8 := by
  obtain ⟨h1, h2, hf, hs⟩ := h.f
  have hu := fits_un hf
  have hp := poss_at h.p
  have hl := last_nonneg (t.take k) (h.ok.take k)
  have hlen := h.len
  have htl : (t.take k).length ≤ 200 := by rw [List.length_take]; omega
  unfold Small at hs
  have hc : chk { x with run := x.run + 1000 } = 0 := by
    refine chk_mk ⟨h1, h2⟩ (by simp only []; omega) (by simp only []; omega) ?_
    refine fits_mk ?_ ?_ ?_ ?_ ?_ ?_ ?_ ?_ ?_ ?_ ?_ <;> simp only [] <;> omega
  have key : ∀ jobs : Int, 5 ≤ jobs → poss jobs (t.take k) { x with run := x.run + 1000 } = 8 := fun jobs hj => by
    by_cases k1 : x.kind = 1
    · rw [poss_launch hc (by simp only []; omega) hp.1 k1, if_neg (by have := hp.2.1 k1; simp only []; omega)]
    · rw [poss_end hc (by simp only []; omega) hp.1 (by simp only []; omega), if_neg]
      rw [List.any_eq_true]
      rintro ⟨e, he, hs⟩
      have := hl.2.2.2 e he
      simp [sameB] at hs
      omega
  exact spOk h.ok h.lt (by omega) (key 5 (by omega)) (.inr (key 64 (by omega)))
theorem Sit.ends (h : Sit t k x) (h3 : x.kind = 2 ∨ x.kind = 3) {y : Ev} (hk : y.kind = x.kind) (ht : y.t = x.t) (hj : y.job = x.job) (hr : y.run = x.run) (hc : chk y = 0) (hd : y.due ≠ x.due ∨ y.att ≠ x.att) : SpOk t k y 8 := by
  obtain ⟨h1, h2, hf, hs⟩ := h.f
  have hp := poss_at h.p
  have hl := last_nonneg (t.take k) (h.ok.take k)
  unfold Small at hs
  have he : early (t.take k) y = false := by
    have := hp.1
    unfold early at this ⊢
    rw [ht]
    exact this
  have hn : (und (t.take k)).any (sameB y) = false := by
    have h5 := hp.2.2 h3
    rw [any_look hl.2.2.1] at h5
    rw [any_look hl.2.2.1, hr]
    cases hlo : look (und (t.take k)) x.run with
    | none => rfl
    | some e =>
      rw [hlo] at h5
      simp only [Bool.and_eq_true, decide_eq_true_eq] at h5
      simp only [Bool.and_eq_false_iff, decide_eq_false_iff_not]
      omega
  have key : ∀ jobs : Int, 5 ≤ jobs → poss jobs (t.take k) y = 8 := fun jobs hjo => by
    rw [poss_end hc (by rw [hk, hj]; omega) he (by omega), if_neg (by rw [hn]; decide)]
  exact spOk h.ok h.lt (by omega) (key 5 (by omega)) (.inr (key 64 (by omega)))
theorem Sit.sp5 (h : Sit t k x) (h3 : x.kind = 2 ∨ x.kind = 3) : 800 ≤ x.due - 1 ∧ SpOk t k { x with due := x.due - 1 } 8 := by
  obtain ⟨h1, h2, hf, hs⟩ := h.f
  have hu := fits_un hf
  unfold Small at hs
  refine ⟨by omega, h.ends h3 rfl rfl rfl rfl (chk_mk ⟨h1, h2⟩ (by simp only []; omega) (by simp only []; omega) ?_) (.inl (by simp only []; omega))⟩
  refine fits_mk ?_ ?_ ?_ ?_ ?_ ?_ ?_ ?_ ?_ ?_ ?_ <;> simp only [] <;> omega
theorem Sit.sp6 (h : Sit t k x) : SpOk t k { x with why := x.why + 20 } 2 := by
  obtain ⟨h1, h2, hf, hs⟩ := h.f
  have hu := fits_un hf
  unfold Small at hs
  refine h.chk2 (chk_two ⟨h1, h2⟩ (by simp only []; omega) (by simp only []; omega) ?_)
  cases hb : fits { x with why := x.why + 20 } with
  | false => rfl
  | true =>
    have := fits_un hb
    simp only [] at this
    have := mostWhy_le x.kind
    omega
theorem Sit.sp7 (h : Sit t k x) (h3 : x.kind = 2 ∨ x.kind = 3) : SpOk t k { x with att := x.att + 1 } 8 := by
  obtain ⟨h1, h2, hf, hs⟩ := h.f
  have hu := fits_un hf
  unfold Small at hs
  refine h.ends h3 rfl rfl rfl rfl (chk_mk ⟨h1, h2⟩ (by simp only []; omega) (by simp only []; omega) ?_) (.inr (by simp only []; omega))
  refine fits_mk ?_ ?_ ?_ ?_ ?_ ?_ ?_ ?_ ?_ ?_ ?_ <;> simp only [] <;> omega
end
end Tr
/- What is under way after each event, and the most of it: plain law. -/
namespace Tr
theorem mref_next (job : Int) (p : List Ev) (x : Ev) : mref job (p ++ [x]) ((p ++ [x]).length + 1) = max (mref job p (p.length + 1)) (cnt job (und (p ++ [x]))) := by
  rw [List.length_append, List.length_singleton, mref, List.take_of_length_le (by simp)]
  congr 1
  have := mref_take job (p ++ [x]) p.length (p.length + 1) (by omega)
  rw [List.take_left' rfl] at this
  exact this.symm
theorem mfold_next {jobs : Int} (job : Int) {p : List Ev} {x : Ev} (h : Ok jobs (p ++ [x])) : (mfold job (p ++ [x])).2 = max (mfold job p).2 (cnt job (und (p ++ [x]))) := by
  rw [(most_eq job _ h).2, (most_eq job p h.of_snoc.1).2, mref_next]
/-- The jobs of the launches, by the number of the run. -/
def jobsL (p : List Ev) : List Int := 0 :: (p.filter fun x => decide (x.kind = 1)).map (·.job)
theorem jobs_snoc (p : List Ev) (x : Ev) : jobsL (p ++ [x]) = if x.kind = 1 then jobsL p ++ [x.job] else jobsL p := by
  unfold jobsL
  rw [List.filter_append, List.map_append]
  by_cases h : x.kind = 1
  · simp [h]
  · simp [h]
theorem jobs_ok {jobs : Int} (p : List Ev) (h : Ok jobs p) : ((jobsL p).length : Int) = last p + 1 ∧ ∀ e ∈ und p, (jobsL p)[e.run.toNat]? = some e.job := by
  induction p using snoc_ind with
  | h0 => simp [jobsL, last, und]
  | h1 p x ih =>
    obtain ⟨hp, hx⟩ := h.of_snoc
    obtain ⟨i1, i2⟩ := ih hp
    have hl := last_nonneg p hp
    rw [jobs_snoc, last_snoc, und_snoc]
    unfold lstep ustep
    by_cases k1 : x.kind = 1
    · have hr := (poss_at hx).2.1 k1
      simp only [if_pos k1]
      refine ⟨by simp; omega, fun e he => ?_⟩
      rcases List.mem_append.1 he with he | he
      · have := hl.2.2.2 e he
        rw [List.getElem?_append_left (by omega)]
        exact i2 e he
      · simp at he
        subst he
        rw [List.getElem?_append_right (by omega), show e.run.toNat - (jobsL p).length = 0 by omega]
        rfl
    · simp only [if_neg k1]
      refine ⟨i1, fun e he => ?_⟩
      have he : e ∈ und p := by
        split at he
        · exact (List.mem_filter.1 he).1
        · exact he
      exact i2 e he
theorem jobs_end {jobs : Int} {p : List Ev} {x : Ev} (h : Ok jobs p) (hx : poss jobs p x = 0) (k : x.kind = 2 ∨ x.kind = 3) : 1 ≤ x.run ∧ x.run < (jobsL p).length ∧ (jobsL p)[x.run.toNat]? = some x.job := by
  obtain ⟨e, -, he, hr, hj, -, -⟩ := und_end h hx k
  have h1 := jobs_ok p h
  have h2 := (last_nonneg p h).2.2.2 e he
  rw [← hr, ← hj]
  exact ⟨h2.2.1, by omega, h1.2 e he⟩
/-- How many of each job. -/
def nowL (p : List Ev) : List Int := (List.range 5).map fun (k : Nat) => (cnt (k : Int) (und p) : Int)
theorem nowL_len (p : List Ev) : (nowL p).length = 5 := by simp [nowL]
theorem nowL_get (p : List Ev) {k : Nat} (hk : k < 5) : (nowL p)[k]? = some (cnt (k : Int) (und p) : Int) := by
  unfold nowL
  rw [List.getElem?_map, List.getElem?_range hk]; rfl
def mkey (k : Nat) : Int := if k = 5 then -1 else k
def mostL (p : List Ev) : List Int := (List.range 6).map fun (k : Nat) => (mfold (mkey k) p).2
theorem mostL_len (p : List Ev) : (mostL p).length = 6 := by simp [mostL]
theorem mostL_get (p : List Ev) {k : Nat} (hk : k < 6) : (mostL p)[k]? = some (mfold (mkey k) p).2 := by
  unfold mostL
  rw [List.getElem?_map, List.getElem?_range hk]; rfl
theorem ofB_job {j : Int} (hj : j ≠ -1) (x : Ev) : ofB j x = decide (x.job = j) := by
  unfold ofB
  simp [hj]
theorem cnt_snoc (j : Int) (L : List Ev) (x : Ev) : cnt j (L ++ [x]) = cnt j L + (if ofB j x = true then 1 else 0) := by unfold cnt; simp [List.countP_append]
theorem now_launch {p : List Ev} {x : Ev} (k1 : x.kind = 1) (hj : 0 ≤ x.job ∧ x.job ≤ 4) : nowL (p ++ [x]) = (nowL p).set x.job.toNat ((cnt x.job (und p) : Int) + 1) := by
  apply List.ext_getElem?
  intro k
  by_cases hk : k < 5
  · rw [nowL_get _ hk, und_snoc]
    unfold ustep
    rw [if_pos k1, cnt_snoc, ofB_job (by omega)]
    by_cases he : x.job = k
    · have : x.job.toNat = k := by omega
      rw [this, List.getElem?_set_self (by rw [nowL_len]; exact hk)]
      simp [he]
    · rw [List.getElem?_set_ne (by omega), nowL_get _ hk]
      simp [he]
  · rw [List.getElem?_eq_none (by rw [nowL_len]; omega), List.getElem?_eq_none (by rw [List.length_set, nowL_len]; omega)]
theorem now_end {jobs : Int} {p : List Ev} {x : Ev} (h : Ok jobs p) (hx : poss jobs p x = 0) (k2 : x.kind = 2 ∨ x.kind = 3) (hj : 0 ≤ x.job ∧ x.job ≤ 4) : nowL (p ++ [x]) = (nowL p).set x.job.toNat ((cnt x.job (und p) : Int) - 1) := by
  obtain ⟨e, -, he, hr, hj2, -, -⟩ := und_end h hx k2
  have hc := fun j => cnt_filter (last_nonneg p h).2.2.1 he j
  apply List.ext_getElem?
  intro k
  by_cases hk : k < 5
  · have hck := hc (k : Int)
    rw [hr, ofB_job (by omega), hj2] at hck
    rw [nowL_get _ hk, und_snoc]
    unfold ustep
    rw [if_neg (by omega), if_pos k2]
    by_cases he : x.job = k
    · have : x.job.toNat = k := by omega
      rw [this, List.getElem?_set_self (by rw [nowL_len]; exact hk), he]
      rw [if_pos (by simpa using he)] at hck
      congr 1
      omega
    · rw [if_neg (by simpa using he)] at hck
      rw [List.getElem?_set_ne (by omega), nowL_get _ hk, ← hck]
      rfl
  · rw [List.getElem?_eq_none (by rw [nowL_len]; omega), List.getElem?_eq_none (by rw [List.length_set, nowL_len]; omega)]
theorem und_other {p : List Ev} {x : Ev} (h1 : x.kind ≠ 1) (h2 : ¬ (x.kind = 2 ∨ x.kind = 3)) : und (p ++ [x]) = und p := by
  rw [und_snoc]; unfold ustep; rw [if_neg h1, if_neg h2]
theorem now_other {p : List Ev} {x : Ev} (h1 : x.kind ≠ 1) (h2 : ¬ (x.kind = 2 ∨ x.kind = 3)) : nowL (p ++ [x]) = nowL p := by
  unfold nowL; rw [und_other h1 h2]
theorem cnt_all (L : List Ev) : cnt (-1) L = L.length := by
  unfold cnt
  rw [List.countP_eq_length]
  intro a _; simp [ofB]
theorem most_next {jobs : Int} {p : List Ev} {x : Ev} (h : Ok jobs (p ++ [x])) {k : Nat} (hk : k < 5) : (mfold (mkey k) (p ++ [x])).2 = max (mfold (mkey k) p).2 (cnt (k : Int) (und (p ++ [x]))) := by
  rw [mfold_next _ h]; unfold mkey; rw [if_neg (by omega)]
theorem most_nextA {jobs : Int} {p : List Ev} {x : Ev} (h : Ok jobs (p ++ [x])) : (mfold (mkey 5) (p ++ [x])).2 = max (mfold (mkey 5) p).2 (und (p ++ [x])).length := by
  rw [mfold_next _ h]; unfold mkey; rw [if_pos rfl, cnt_all]
theorem cnt_sum (L : List Ev) (h : ∀ e ∈ L, 0 ≤ e.job ∧ e.job ≤ 4) : cnt (-1) L = cnt 0 L + cnt 1 L + cnt 2 L + cnt 3 L + cnt 4 L := by
  induction L with
  | nil => rfl
  | cons a L ih =>
    have := ih fun e he => h e (List.mem_cons_of_mem _ he)
    have ha := h a (by simp)
    unfold cnt at *
    simp only [List.countP_cons, ofB_job (show (0 : Int) ≠ -1 by omega), ofB_job (show (1 : Int) ≠ -1 by omega), ofB_job (show (2 : Int) ≠ -1 by omega), ofB_job (show (3 : Int) ≠ -1 by omega), ofB_job (show (4 : Int) ≠ -1 by omega), this, decide_eq_true_eq]
    have : ofB (-1) a = true := by simp [ofB]
    rw [if_pos this]
    have hj : a.job = 0 ∨ a.job = 1 ∨ a.job = 2 ∨ a.job = 3 ∨ a.job = 4 := by omega
    rcases hj with q | q | q | q | q <;> simp [q] <;> omega
theorem mref_sum {l : List Ev} (h : ∀ n, ∀ e ∈ und (l.take n), 0 ≤ e.job ∧ e.job ≤ 4) : ∀ n, mref (-1) l n ≤ mref 0 l n + mref 1 l n + mref 2 l n + mref 3 l n + mref 4 l n
  | 0 => by simp [mref]
  | n + 1 => by
    have h1 := mref_sum h n
    have h2 := cnt_sum _ (h n)
    simp only [mref]
    omega
theorem mref_none {j : Int} (hj : j ≠ -1) {l : List Ev} (h : ∀ n, ∀ e ∈ und (l.take n), e.job ≠ j) : ∀ n, mref j l n = 0
  | 0 => rfl
  | n + 1 => by
    have h2 : cnt j (und (l.take n)) = 0 := by
      unfold cnt
      rw [List.countP_eq_zero]
      intro e he
      rw [ofB_job hj]
      simpa using h n e he
    simp only [mref, mref_none hj h n, h2]
    rfl
theorem und_small {l : List Ev} (hok : Ok 5 l) (hs : ∀ e ∈ l, Small e) (n : Nat) : ∀ e ∈ und (l.take n), 0 ≤ e.job ∧ e.job ≤ 4 := fun e he => by
  have := hs e (List.mem_of_mem_take ((last_nonneg _ (hok.take n)).2.2.2 e he).2.2.2)
  unfold Small at this
  omega
theorem most_sum {l : List Ev} (hok : Ok 5 l) (hs : ∀ e ∈ l, Small e) : (mfold (-1) l).2 ≤ (mfold 0 l).2 + (mfold 1 l).2 + (mfold 2 l).2 + (mfold 3 l).2 + (mfold 4 l).2 := by
  simp only [(most_eq _ l hok).2]
  exact mref_sum (und_small hok hs) _
theorem most_none {l : List Ev} (hok : Ok 5 l) (hs : ∀ e ∈ l, Small e) : (mfold 63 l).2 = 0 := by
  rw [(most_eq _ l hok).2]
  exact mref_none (by omega) (fun n e he => by have := und_small hok hs n e he; omega) _
theorem mref_le (j : Int) (l : List Ev) : ∀ n, mref j l n ≤ n
  | 0 => by simp [mref]
  | n + 1 => by
    have := mref_le j l n
    have h2 : cnt j (und (l.take n)) ≤ n := by
      have h3 : ∀ p : List Ev, (und p).length ≤ p.length := by
        intro p
        induction p using snoc_ind with
        | h0 => simp [und]
        | h1 p x ih =>
          rw [und_snoc]
          unfold ustep
          split
          · simp; exact ih
          · split
            · have := List.length_filter_le (fun e : Ev => e.run != x.run) (und p); simp; omega
            · simp; omega
      have h4 := h3 (l.take n)
      have h5 : cnt j (und (l.take n)) ≤ (und (l.take n)).length := List.countP_le_length
      rw [List.length_take] at h4
      omega
    simp only [mref]
    omega
theorem most_le {l : List Ev} (hok : Ok 5 l) (j : Int) : 0 ≤ (mfold j l).2 ∧ (mfold j l).2 ≤ l.length + 1 := by
  rw [(most_eq _ l hok).2]
  have := mref_le j l (l.length + 1)
  exact ⟨mref_nonneg _ _ _, by omega⟩
end Tr
/- Launches and delays of all jobs, and of each: plain law. -/
namespace Tr
theorem launL_snoc (j : Int) (p : List Ev) (x : Ev) : launL j (p ++ [x]) = if x.kind = 1 ∧ ofB j x = true then launL j p ++ [x.t] else launL j p := by
  unfold launL
  rw [List.filter_append, List.map_append]
  by_cases h : x.kind = 1 ∧ ofB j x = true
  · rw [if_pos h, List.filter_cons_of_pos (by simp [h])]
    simp
  · rw [if_neg h, List.filter_cons_of_neg (by simpa using h)]
    simp
theorem launL_take (j : Int) {l : List Ev} {i : Nat} {x : Ev} (hx : l[i]? = some x) : launL j (l.take (i + 1)) = if x.kind = 1 ∧ ofB j x = true then launL j (l.take i) ++ [x.t] else launL j (l.take i) := by
  rw [take_snoc' hx, launL_snoc]
theorem launL_at (j : Int) {l : List Ev} {i : Nat} {x : Ev} (hx : l[i]? = some x) (h : x.kind = 1 ∧ ofB j x = true) : (launL j l)[(launL j (l.take i)).length]? = some x.t := by
  have e : launL j l = launL j (l.take (i + 1)) ++ launL j (l.drop (i + 1)) := by
    unfold launL
    rw [← List.map_append, ← List.filter_append, List.take_append_drop]
  rw [e, launL_take j hx, if_pos h, List.append_assoc, List.getElem?_append_right (Nat.le_refl _)]
  simp
theorem launL_len (j : Int) (l : List Ev) : (launL j l).length ≤ l.length := by
  unfold launL
  rw [List.length_map]
  exact List.length_filter_le _ _
theorem launL_take_le (j : Int) (l : List Ev) (i : Nat) : (launL j (l.take i)).length ≤ (launL j l).length := by
  have e : launL j l = launL j (l.take i) ++ launL j (l.drop i) := by
    unfold launL
    rw [← List.map_append, ← List.filter_append, List.take_append_drop]
  rw [e, List.length_append]
  omega
theorem launL_sorted {jobs : Int} {l : List Ev} (h : Ok jobs l) (j : Int) : (launL j l).Pairwise (· ≤ ·) := by
  unfold launL
  rw [List.pairwise_map]
  exact (Ok.times l h).filter _
theorem delay_take (j : Int) {l : List Ev} {i : Nat} {x : Ev} (hx : l[i]? = some x) : delay j (l.take (i + 1)) = dstep j (delay j (l.take i)) x := by
  rw [take_snoc' hx]; simp [delay]
theorem delay_snoc (j : Int) (p : List Ev) (x : Ev) : delay j (p ++ [x]) = dstep j (delay j p) x := by simp [delay]
theorem dstep_job {j : Int} (hj : j ≠ -1) (m : Int) (x : Ev) : dstep j m x = if x.kind = 1 ∧ x.job = j ∧ x.att = 1 then max m (x.t - x.due) else m := by
  unfold dstep
  rw [ofB_job hj]
  by_cases h : x.kind = 1 ∧ x.job = j ∧ x.att = 1
  · rw [if_pos h, if_pos (by simp [h])]
  · rw [if_neg h, if_neg (by simp only [Bool.and_eq_true, decide_eq_true_eq]; omega)]
theorem dstep_all (m : Int) (x : Ev) : dstep (-1) m x = if x.kind = 1 ∧ x.att = 1 then max m (x.t - x.due) else m := by
  unfold dstep
  have : ofB (-1) x = true := by simp [ofB]
  rw [this]
  by_cases h : x.kind = 1 ∧ x.att = 1
  · rw [if_pos h, if_pos (by simp [h])]
  · rw [if_neg h, if_neg (by simp only [Bool.and_eq_true, decide_eq_true_eq]; omega)]
theorem delay_bd {l : List Ev} (hs : ∀ e ∈ l, Small e) (j : Int) (i : Nat) : 0 ≤ delay j (l.take i) ∧ delay j (l.take i) ≤ 1600 := by
  have : ∀ p : List Ev, (∀ e ∈ p, Small e) → 0 ≤ delay j p ∧ delay j p ≤ 1600 := by
    intro p
    induction p using snoc_ind with
    | h0 => intro _; simp [delay]
    | h1 p x ih =>
      intro h
      have h1 := ih fun e he => h e (List.mem_append_left _ he)
      have h2 := h x (by simp)
      unfold Small at h2
      rw [delay_snoc]
      unfold dstep
      split <;> omega
  exact this _ fun e he => hs e (List.mem_of_mem_take he)
theorem delay_bd' {l : List Ev} (hs : ∀ e ∈ l, Small e) (j : Int) : 0 ≤ delay j l ∧ delay j l ≤ 1600 := by
  have := delay_bd hs j l.length
  rwa [List.take_length] at this
/-- The jobs' launches together. -/
def sumL (l : List Ev) : Nat → Nat
  | 0 => 0
  | k + 1 => sumL l k + (launL (k : Int) l).length
def lateL (l : List Ev) : Nat → Int
  | 0 => 0
  | k + 1 => max (lateL l k) (delay (k : Int) l)
theorem sumL_le {l : List Ev} : ∀ k, sumL l k ≤ k * l.length
  | 0 => by simp [sumL]
  | k + 1 => by
    have h1 := sumL_le (l := l) k
    have h2 := launL_len (k : Int) l
    rw [Nat.succ_mul]
    simp only [sumL]
    omega
theorem lateL_bd {l : List Ev} (hs : ∀ e ∈ l, Small e) : ∀ k, 0 ≤ lateL l k ∧ lateL l k ≤ 1600
  | 0 => by simp [lateL]
  | k + 1 => by
    have h1 := lateL_bd hs k
    have h2 := delay_bd' hs (k : Int)
    simp only [lateL]
    omega
theorem sumL5 (l : List Ev) : sumL l 5 = 0 + (launL 0 l).length + (launL 1 l).length + (launL 2 l).length + (launL 3 l).length + (launL 4 l).length := rfl
theorem lateL5 (l : List Ev) : lateL l 5 = max (max (max (max (max 0 (delay 0 l)) (delay 1 l)) (delay 2 l)) (delay 3 l)) (delay 4 l) := rfl
theorem sumL_all (l : List Ev) (h : ∀ e ∈ l, Small e) : sumL l 5 = (launL (-1) l).length := by
  induction l using snoc_ind with
  | h0 => rfl
  | h1 p x ih =>
    have h1 := ih fun e he => h e (List.mem_append_left _ he)
    have h2 := h x (by simp)
    unfold Small at h2
    simp only [sumL5, launL_snoc, ofB_job (show (0 : Int) ≠ -1 by omega), ofB_job (show (1 : Int) ≠ -1 by omega), ofB_job (show (2 : Int) ≠ -1 by omega), ofB_job (show (3 : Int) ≠ -1 by omega), ofB_job (show (4 : Int) ≠ -1 by omega)] at h1 ⊢
    have : ofB (-1) x = true := by simp [ofB]
    by_cases k1 : x.kind = 1
    · simp only [k1, true_and, this, if_true, List.length_append, List.length_singleton, decide_eq_true_eq]
      have hj : x.job = 0 ∨ x.job = 1 ∨ x.job = 2 ∨ x.job = 3 ∨ x.job = 4 := by omega
      rcases hj with q | q | q | q | q <;> simp [q] <;> omega
    · simp only [k1, false_and, if_false]; exact h1
theorem lateL_all (l : List Ev) (h : ∀ e ∈ l, Small e) : lateL l 5 = delay (-1) l := by
  induction l using snoc_ind with
  | h0 => rfl
  | h1 p x ih =>
    have h1 := ih fun e he => h e (List.mem_append_left _ he)
    have h2 := h x (by simp)
    unfold Small at h2
    have hj : x.job = 0 ∨ x.job = 1 ∨ x.job = 2 ∨ x.job = 3 ∨ x.job = 4 := by omega
    clear h h2 ih
    rw [lateL5] at h1 ⊢
    simp only [delay_snoc, dstep_all, dstep_job (show (0 : Int) ≠ -1 by omega), dstep_job (show (1 : Int) ≠ -1 by omega), dstep_job (show (2 : Int) ≠ -1 by omega), dstep_job (show (3 : Int) ≠ -1 by omega), dstep_job (show (4 : Int) ≠ -1 by omega)]
    rw [← h1]
    clear h1
    generalize delay 0 p = a
    generalize delay 1 p = b
    generalize delay 2 p = c
    generalize delay 3 p = d
    generalize delay 4 p = e
    generalize x.t - x.due = v
    by_cases k1 : x.kind = 1 ∧ x.att = 1
    · rcases hj with q | q | q | q | q <;> simp [q, k1] <;> simp only [Int.max_assoc, Int.max_comm, fun a b c : Int => show max a (max b c) = max b (max a c) by omega]
    · have e : ∀ j : Int, ¬ (x.kind = 1 ∧ x.job = j ∧ x.att = 1) := fun j q => k1 ⟨q.1, q.2.2⟩
      simp only [e, k1, if_false]
/-! Numbers of the kinds. -/
def cntK (k : Int) (l : List Ev) : Nat := l.countP fun x => decide (x.kind = k)
theorem cntK_sum (l : List Ev) (h : ∀ x ∈ l, 1 ≤ x.kind ∧ x.kind ≤ 8) : cntK 0 l = 0 ∧ cntK 0 l + cntK 1 l + cntK 2 l + cntK 3 l + cntK 4 l + cntK 5 l + cntK 6 l + cntK 7 l + cntK 8 l = l.length := by
  induction l with
  | nil => exact ⟨rfl, rfl⟩
  | cons a l ih =>
    have h1 := ih fun e he => h e (List.mem_cons_of_mem _ he)
    have h2 := h a (by simp)
    have hc : ∀ k : Int, cntK k (a :: l) = cntK k l + if a.kind = k then 1 else 0 := fun k => by
      unfold cntK; rw [List.countP_cons]; simp
    simp only [hc, List.length_cons]
    generalize cntK 0 l = c0 at *
    generalize cntK 1 l = c1 at *
    generalize cntK 2 l = c2 at *
    generalize cntK 3 l = c3 at *
    generalize cntK 4 l = c4 at *
    generalize cntK 5 l = c5 at *
    generalize cntK 6 l = c6 at *
    generalize cntK 7 l = c7 at *
    generalize cntK 8 l = c8 at *
    clear hc ih h
    generalize l.length = n at *
    have hk : a.kind = 1 ∨ a.kind = 2 ∨ a.kind = 3 ∨ a.kind = 4 ∨ a.kind = 5 ∨ a.kind = 6 ∨ a.kind = 7 ∨ a.kind = 8 := by omega
    rcases hk with q | q | q | q | q | q | q | q <;> simp [q] <;> omega
theorem cntK_launches (l : List Ev) : cntK 1 l = (launL (-1) l).length := by
  unfold cntK launL
  rw [List.length_map, List.countP_eq_length_filter]
  congr 1
  apply List.filter_congr
  intro x _
  simp [ofB]
/-- The events up to a time. -/
theorem upto {l : List Ev} (h : l.Pairwise fun a b => a.t ≤ b.t) (now : Int) : (l.filter fun x => decide (x.t ≤ now)) = l.take (l.filter fun x => decide (x.t ≤ now)).length ∧ (l.filter fun x => decide (x.t ≤ now)).length ≤ l.length ∧ (∀ x, l[(l.filter fun x => decide (x.t ≤ now)).length]? = some x → now < x.t) := by
  have e := prefix_eq h now
  have hlen := List.findIdx_le_length (p := fun x : Ev => decide (now < x.t)) (xs := l)
  have e2 : (l.filter fun x => decide (x.t ≤ now)).length = l.findIdx (fun x => decide (now < x.t)) := by rw [← e, List.length_take]; omega
  refine ⟨by rw [e2, e], by omega, fun x hx => ?_⟩
  rw [e2] at hx
  obtain ⟨h1, h2⟩ := List.getElem?_eq_some_iff.1 hx
  have := List.findIdx_getElem (p := fun x : Ev => decide (now < x.t)) (xs := l) (w := h1)
  rw [h2] at this
  simpa using this
theorem bad_zero {jobs : Int} {l : List Ev} (h : Ok jobs l) : bad jobs l = 0 := by unfold bad; rw [chkFrom_of_ok h]
end Tr
