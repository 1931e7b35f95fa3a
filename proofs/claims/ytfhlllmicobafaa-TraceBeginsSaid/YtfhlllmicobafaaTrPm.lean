/- TrPm: texts for the statements of this seat: contracts of functions, walks, plain laws. Conditions: none. -/
import Derived.Test.YtfhlllmicobafaaTrPl
set_option linter.all false
/- A spoilt event is found: plain law. -/
namespace Tr
theorem fits_un {e : Ev} (h : fits e = true) : ((e.kind = 6 → e.job = 0) ∧ (e.kind ≠ 6 → 0 ≤ e.job ∧ e.job ≤ 63)) ∧ ((e.kind ≤ 5 → 0 ≤ e.due ∧ e.due ≤ e.t) ∧ (¬ e.kind ≤ 5 → e.due = 0)) ∧ ((e.kind ≤ 5 → 1 ≤ e.att ∧ e.att ≤ 21) ∧ (e.kind = 4 → 2 ≤ e.att) ∧ (¬ e.kind ≤ 5 → e.att = 0))
    ∧ ((e.kind ≤ 3 → 1 ≤ e.run) ∧ (¬ e.kind ≤ 3 → e.run = 0)) ∧ ((e.kind = 4 ∨ e.kind = 7 → e.t + 1 ≤ e.whn ∧ e.whn ≤ 4611686018427387904) ∧ (¬ (e.kind = 4 ∨ e.kind = 7) → e.whn = 0))
    ∧ ((e.kind = 5 ∨ e.kind = 6 → 1 ≤ e.why ∧ e.why ≤ mostWhy e.kind) ∧ (¬ (e.kind = 5 ∨ e.kind = 6) → e.why = 0)) := by
  unfold fits at h
  simp only [Bool.and_eq_true] at h
  obtain ⟨⟨⟨⟨⟨h1, h2⟩, h3⟩, h4⟩, h5⟩, h6⟩ := h
  refine ⟨⟨fun k => ?_, fun k => ?_⟩, ⟨fun k => ?_, fun k => ?_⟩, ⟨fun k => ?_, fun k => ?_, fun k => ?_⟩, ⟨fun k => ?_, fun k => ?_⟩, ⟨fun k => ?_, fun k => ?_⟩, fun k => ?_, fun k => ?_⟩
  · rw [if_pos k] at h1; simpa using h1
  · rw [if_neg k] at h1; simpa using h1
  · rw [if_pos k] at h2; simpa using h2
  · rw [if_neg k] at h2; simpa using h2
  · rw [if_pos k] at h3
    simp only [Bool.and_eq_true, decide_eq_true_eq] at h3
    refine ⟨?_, h3.2⟩
    have := h3.1
    split at this <;> omega
  · rw [if_pos (by omega), if_pos k] at h3
    simp only [Bool.and_eq_true, decide_eq_true_eq] at h3
    exact h3.1
  · rw [if_neg k] at h3; simpa using h3
  · rw [if_pos k] at h4; simpa using h4
  · rw [if_neg k] at h4; simpa using h4
  · rw [if_pos k] at h5; simpa using h5
  · rw [if_neg k] at h5; simpa using h5
  · rw [if_pos k] at h6; simpa using h6
  · rw [if_neg k] at h6; simpa using h6
theorem mostWhy_le (k : Int) : mostWhy k ≤ 16 := by unfold mostWhy; split <;> (try split) <;> omega
theorem poss_wide {p : List Ev} {x : Ev} {a b : Int} (hab : a ≤ b) (h : poss a p x = 0) : poss b p x = 0 := by
  have hc := Ok.kinds h
  have h1 := poss_at h
  have hj : x.kind = 6 ∨ x.job < a := by
    unfold poss at h
    rw [if_neg (by omega)] at h
    split at h
    · omega
    · omega
  exact poss_mk hc (by omega) h1.1 h1.2.1 h1.2.2
theorem Ok.wide {a b : Int} (hab : a ≤ b) {l : List Ev} (h : Ok a l) : Ok b l := fun i x hx => poss_wide hab (h i x hx)
/-- What the law says of a spoilt event. -/
structure SpOk (t : List Ev) (k : Nat) (x : Ev) (want : Int) : Prop where
  c : check 5 (t.set k x) = ((k : Int), want)
  n : want ≠ 0
  r : want = 3 ∨ bad 64 (t.set k x) = want
theorem spOk {t : List Ev} {k : Nat} {x : Ev} {want : Int} (hok : Ok 5 t) (hk : k < t.length) (hne : want ≠ 0) (hp : poss 5 (t.take k) x = want) (h64 : want = 3 ∨ poss 64 (t.take k) x = want) : SpOk t k x want where
  n := hne
  c := by
    unfold check
    rw [if_neg (by omega)]
    have ht : (t.set k x).take k = t.take k := by rw [List.take_set_of_le (Nat.le_refl _)]
    have := chkFrom_at (jobs := 5) (l := t.set k x) (i := k) (x := x) (by simp [hk]) (by rw [ht]; exact hok.take k) (by rw [ht, hp]; exact hne)
    rw [this, ht, hp]
  r := by
    rcases h64 with h | h
    · exact .inl h
    · right
      have ht : (t.set k x).take k = t.take k := by rw [List.take_set_of_le (Nat.le_refl _)]
      have := chkFrom_at (jobs := 64) (l := t.set k x) (i := k) (x := x) (by simp [hk]) (by rw [ht]; exact (hok.wide (by omega)).take k) (by rw [ht, h]; exact hne)
      unfold bad
      rw [this, ht, h]
theorem chk_two {e : Ev} (h1 : 1 ≤ e.kind ∧ e.kind ≤ 8) (h2 : 0 ≤ e.t ∧ e.t ≤ 253402300799) (h3 : e.kind ≤ 5 → 0 ≤ e.due ∧ e.due ≤ 253402300799) (h4 : fits e = false) : chk e = 2 := by
  unfold chk
  rw [if_neg (by omega), if_neg (by
    simp only [vt, Bool.and_eq_false_iff, decide_eq_false_iff_not]
    omega), if_neg (by rw [h4]; decide)]
section
variable {t : List Ev} {k : Nat} {x : Ev}
structure Sit (t : List Ev) (k : Nat) (x : Ev) : Prop where
  ok : Ok 5 t
  len : t.length ≤ 200
  small : ∀ e ∈ t, Small e
  at_ : t[k]? = some x
theorem Sit.lt (h : Sit t k x) : k < t.length := (List.getElem?_eq_some_iff.1 h.at_).1
theorem Sit.p (h : Sit t k x) : poss 5 (t.take k) x = 0 := h.ok k x h.at_
theorem Sit.f (h : Sit t k x) : 1 ≤ x.kind ∧ x.kind ≤ 8 ∧ fits x = true ∧ Small x := by
  have := chk_ok (Ok.kinds h.p)
  exact ⟨this.1, this.2.1, this.2.2.2.2, h.small x (List.mem_of_getElem? h.at_)⟩
theorem Sit.chk2 (h : Sit t k x) {y : Ev} (hy : chk y = 2) : SpOk t k y 2 := spOk h.ok h.lt (by omega) (by rw [poss_chk (by omega), hy]) (.inr (by rw [poss_chk (by omega), hy]))
theorem Sit.sp0 (h : Sit t k x) : SpOk t k { x with t := -1 } 14 := by
  have hf := h.f
  have hc : chk { x with t := -1 } = 14 := by
    unfold chk
    rw [if_neg (by simp only []; omega), if_pos (by left; simp [vt])]
  exact spOk h.ok h.lt (by omega) (by rw [poss_chk (by omega), hc]) (.inr (by rw [poss_chk (by omega), hc]))
theorem Sit.sp1 (h : Sit t k x) : SpOk t k { x with kind := 9 } 2 := h.chk2 (by unfold chk; rw [if_pos (by simp)])
theorem Sit.sp2 (h : Sit t k x) (h6 : x.kind ≠ 6) : SpOk t k { x with job := 5 } 3 := by
  obtain ⟨h1, h2, hf, hs⟩ := h.f
  have hu := fits_un hf
  unfold Small at hs
  refine spOk h.ok h.lt (by omega) (poss_job (chk_mk ⟨h1, h2⟩ (by simp only []; omega) (by simp only []; omega) ?_) h6 (by simp only []; omega)) (.inl rfl)
  refine fits_mk ?_ ?_ ?_ ?_ ?_ ?_ ?_ ?_ ?_ ?_ ?_ <;> simp only [] <;> omega
theorem Sit.sp3 (h : Sit t (k + 1) x) {y : Ev} (hy : t[k]? = some y) : 999 ≤ y.t - 1 ∧ y.t ≤ 1600 ∧ (x.kind ≤ 5 ∧ y.t - 1 < x.due → SpOk t (k + 1) { x with t := y.t - 1 } 2) ∧ (¬ (x.kind ≤ 5 ∧ y.t - 1 < x.due) → SpOk t (k + 1) { x with t := y.t - 1 } 8) := by
  obtain ⟨h1, h2, hf, hs⟩ := h.f
  have hu := fits_un hf
  have hsy := h.small y (List.mem_of_getElem? hy)
  have he := (poss_at h.p).1
  rw [early_succ hy] at he
  have he : y.t ≤ x.t := by simpa using he
  unfold Small at hs hsy
  refine ⟨by omega, by omega, fun q => h.chk2 (chk_two ⟨h1, h2⟩ (by simp only []; omega) (by simp only []; omega) ?_), fun q => ?_⟩
  · cases hb : fits { x with t := y.t - 1 } with
    | false => rfl
    | true =>
      have := fits_un hb
      simp only [] at this
      omega
  · have hc : chk { x with t := y.t - 1 } = 0 := by
      refine chk_mk ⟨h1, h2⟩ (by simp only []; omega) (by simp only []; omega) ?_
      refine fits_mk ?_ ?_ ?_ ?_ ?_ ?_ ?_ ?_ ?_ ?_ ?_ <;> simp only [] <;> omega
    have hea : early (t.take (k + 1)) { x with t := y.t - 1 } = true := by
      rw [early_succ hy]
      simp only [decide_eq_true_eq]
      omega
    exact spOk h.ok h.lt (by omega) (poss_early hc (by simp only []; omega) hea) (.inr (poss_early hc (by simp only []; omega) hea))
theorem Sit.sp4 (h : Sit t k x) (h3 : x.kind ≤ 3) : SpOk t k { x with run := x.run + 1000 } 8 := by
  obtain ⟨h1, h2, hf, hs⟩ := h.f
  have hu := fits_un hf
  have hp := poss_at h.p
  have hl := last_nonneg (t.take k) (h.ok.take k)
  have hlen := h.len
  have htl : (t.take k).length ≤ 200 := by rw [List.length_take]; omega
  unfold Small at hs
  have hc : chk { x with run := x.run + 1000 } = 0 := by
    refine chk_mk ⟨h1, h2⟩ (by simp only []; omega) (by simp only []; omega) ?_
    refine fits_mk ?_ ?_ ?_ ?_ ?_ ?_ ?_ ?_ ?_ ?_ ?_ <;> simp only [] <;> omega
  have key : ∀ jobs : Int, 5 ≤ jobs → poss jobs (t.take k) { x with run := x.run + 1000 } = 8 := fun jobs hj => by
    by_cases k1 : x.kind = 1
    · rw [poss_launch hc (by simp only []; omega) hp.1 k1, if_neg (by have := hp.2.1 k1; simp only []; omega)]
    · rw [poss_end hc (by simp only []; omega) hp.1 (by simp only []; omega), if_neg]
      rw [List.any_eq_true]
      rintro ⟨e, he, hs⟩
      have := hl.2.2.2 e he
      simp [sameB] at hs
      omega
  exact spOk h.ok h.lt (by omega) (key 5 (by omega)) (.inr (key 64 (by omega)))
theorem Sit.ends (h : Sit t k x) (h3 : x.kind = 2 ∨ x.kind = 3) {y : Ev} (hk : y.kind = x.kind) (ht : y.t = x.t) (hj : y.job = x.job) (hr : y.run = x.run) (hc : chk y = 0) (hd : y.due ≠ x.due ∨ y.att ≠ x.att) : SpOk t k y 8 := by
  obtain ⟨h1, h2, hf, hs⟩ := h.f
  have hp := poss_at h.p
  have hl := last_nonneg (t.take k) (h.ok.take k)
  unfold Small at hs
  have he : early (t.take k) y = false := by
    have := hp.1
    unfold early at this ⊢
    rw [ht]
    exact this
  have hn : (und (t.take k)).any (sameB y) = false := by
    have h5 := hp.2.2 h3
    rw [any_look hl.2.2.1] at h5
    rw [any_look hl.2.2.1, hr]
    cases hlo : look (und (t.take k)) x.run with
    | none => rfl
    | some e =>
      rw [hlo] at h5
      simp only [Bool.and_eq_true, decide_eq_true_eq] at h5
      simp only [Bool.and_eq_false_iff, decide_eq_false_iff_not]
      omega
  have key : ∀ jobs : Int, 5 ≤ jobs → poss jobs (t.take k) y = 8 := fun jobs hjo => by
    rw [poss_end hc (by rw [hk, hj]; omega) he (by omega), if_neg (by rw [hn]; decide)]
  exact spOk h.ok h.lt (by omega) (key 5 (by omega)) (.inr (key 64 (by omega)))
theorem Sit.sp5 (h : Sit t k x) (h3 : x.kind = 2 ∨ x.kind = 3) : 800 ≤ x.due - 1 ∧ SpOk t k { x with due := x.due - 1 } 8 := by
  obtain ⟨h1, h2, hf, hs⟩ := h.f
  have hu := fits_un hf
  unfold Small at hs
  refine ⟨by omega, h.ends h3 rfl rfl rfl rfl (chk_mk ⟨h1, h2⟩ (by simp only []; omega) (by simp only []; omega) ?_) (.inl (by simp only []; omega))⟩
  refine fits_mk ?_ ?_ ?_ ?_ ?_ ?_ ?_ ?_ ?_ ?_ ?_ <;> simp only [] <;> omega
theorem Sit.sp6 (h : Sit t k x) : SpOk t k { x with why := x.why + 20 } 2 := by
  obtain ⟨h1, h2, hf, hs⟩ := h.f
  have hu := fits_un hf
  unfold Small at hs
  refine h.chk2 (chk_two ⟨h1, h2⟩ (by simp only []; omega) (by simp only []; omega) ?_)
  cases hb : fits { x with why := x.why + 20 } with
  | false => rfl
  | true =>
    have := fits_un hb
    simp only [] at this
    have := mostWhy_le x.kind
    omega
theorem Sit.sp7 (h : Sit t k x) (h3 : x.kind = 2 ∨ x.kind = 3) : SpOk t k { x with att := x.att + 1 } 8 := by
  obtain ⟨h1, h2, hf, hs⟩ := h.f
  have hu := fits_un hf
  unfold Small at hs
  refine h.ends h3 rfl rfl rfl rfl (chk_mk ⟨h1, h2⟩ (by simp only []; omega) (by simp only []; omega) ?_) (.inr (by simp only []; omega))
  refine fits_mk ?_ ?_ ?_ ?_ ?_ ?_ ?_ ?_ ?_ ?_ ?_ <;> simp only [] <;> omega
end
end Tr
