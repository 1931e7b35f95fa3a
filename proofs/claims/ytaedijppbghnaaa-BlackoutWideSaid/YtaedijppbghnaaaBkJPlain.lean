/- A join, step by step. -/
import Derived.Test.YtaedijppbghnaaaBkPlain
namespace Go.Proofs.Ytaedijppbghnaaa.Bk
/-- How a join stands: the counts, the open span's begin, the spans that are done. -/
structure JS where
  m0 : Int
  m1 : Int
  op : Option Int
  acc : List Sp
def jstep (want : Bool → Bool → Bool) (st : JS) (e : Ev) : JS :=
  match st.op, want (decide (0 < st.m0 + e.2.1)) (decide (0 < st.m1 + e.2.2)) with
  | none, true => ⟨st.m0 + e.2.1, st.m1 + e.2.2, some e.1, st.acc⟩
  | some f, false => ⟨st.m0 + e.2.1, st.m1 + e.2.2, none, st.acc ++ [(f, e.1 - 1)]⟩
  | o, _ => ⟨st.m0 + e.2.1, st.m1 + e.2.2, o, st.acc⟩
def JS.out (st : JS) : List Sp := st.acc ++ match st.op with | none => [] | some f => [(f, 0)]
def js0 : JS := ⟨0, 0, none, []⟩
def jst (want : Bool → Bool → Bool) (pre : List Ev) : JS := pre.foldl (jstep want) js0
theorem jst_snoc (want : Bool → Bool → Bool) (pre : List Ev) (x : Ev) : jst want (pre ++ [x]) = jstep want (jst want pre) x := by simp [jst]
theorem jn_fold (want : Bool → Bool → Bool) : ∀ (g : List Ev) (st : JS), st.acc ++ jn want st.m0 st.m1 st.op g = (g.foldl (jstep want) st).out
  | [], ⟨m0, m1, op, acc⟩ => by cases op <;> rfl
  | e :: r, ⟨m0, m1, op, acc⟩ => by
    rw [List.foldl_cons, ← jn_fold want r]
    rcases hw : want (decide (0 < m0 + e.2.1)) (decide (0 < m1 + e.2.2)) with _ | _ <;> cases op <;> simp [jn, jstep, hw]
theorem jst_jn (want : Bool → Bool → Bool) (g : List Ev) : (jst want g).out = jn want 0 0 none g := (jn_fold want g js0).symm
theorem jstep_m (want : Bool → Bool → Bool) (st : JS) (e : Ev) : (jstep want st e).m0 = st.m0 + e.2.1 ∧ (jstep want st e).m1 = st.m1 + e.2.2 := by
  unfold jstep
  split <;> exact ⟨rfl, rfl⟩
theorem jst_bd (want : Bool → Bool → Bool) : ∀ (pre : List Ev) (st : JS) (M K : Int), 0 ≤ M → (∀ e ∈ pre, (-M ≤ e.2.1 ∧ e.2.1 ≤ M) ∧ (-M ≤ e.2.2 ∧ e.2.2 ≤ M)) → (-K ≤ st.m0 ∧ st.m0 ≤ K) → (-K ≤ st.m1 ∧ st.m1 ≤ K) →
    (-(K + M * pre.length) ≤ (pre.foldl (jstep want) st).m0 ∧ (pre.foldl (jstep want) st).m0 ≤ K + M * pre.length) ∧ (-(K + M * pre.length) ≤ (pre.foldl (jstep want) st).m1 ∧ (pre.foldl (jstep want) st).m1 ≤ K + M * pre.length)
  | [], st, M, K, _, _, h0, h1 => by simp; omega
  | e :: r, st, M, K, hM, hp, h0, h1 => by
    have he := hp e (.head _)
    have h := jst_bd want r (jstep want st e) M (K + M) hM (fun x hx => hp x (.tail _ hx)) (by rw [(jstep_m want st e).1]; omega) (by rw [(jstep_m want st e).2]; omega)
    rw [List.foldl_cons, List.length_cons]
    have e1 : K + M * ((r.length + 1 : Nat) : Int) = K + M + M * r.length := by
      rw [Int.natCast_add, Int.mul_add]; simp; omega
    rw [e1]
    exact h
theorem grp_bd {l : List Ev} (h : ∀ e ∈ l, (-1 ≤ e.2.1 ∧ e.2.1 ≤ 1) ∧ (-1 ≤ e.2.2 ∧ e.2.2 ≤ 1)) : ∀ f ∈ grp l, (-(l.length : Int) ≤ f.2.1 ∧ f.2.1 ≤ l.length) ∧ (-(l.length : Int) ≤ f.2.2 ∧ f.2.2 ≤ l.length) := by
  induction l with
  | nil => intro f hf; cases hf
  | cons e r ih =>
    have he := h e (.head _)
    have ih := ih fun x hx => h x (.tail _ hx)
    intro f hf
    rw [List.length_cons]
    rcases hg : grp r with _ | ⟨g, s⟩
    · rw [grp_nil' hg] at hf
      simp at hf
      subst hf
      omega
    · rw [hg] at ih
      have hg0 := ih g (.head _)
      by_cases q : g.1 = e.1
      · rw [grp_same hg q] at hf
        rcases List.mem_cons.1 hf with rfl | hf
        · simp only; omega
        · have := ih f (.tail _ hf); omega
      · rw [grp_else hg q] at hf
        rcases List.mem_cons.1 hf with rfl | hf
        · omega
        · have := ih f hf; omega
theorem grp_len (l : List Ev) : (grp l).length ≤ l.length := by
  induction l with
  | nil => exact Nat.le_refl _
  | cons e r ih =>
    rw [List.length_cons]
    rcases hg : grp r with _ | ⟨g, s⟩
    · rw [grp_nil' hg]; simp
    · rw [hg] at ih
      by_cases q : g.1 = e.1
      · rw [grp_same hg q]; simp at ih ⊢; omega
      · rw [grp_else hg q]; simp at ih ⊢; omega
/-- What is known of a prefix of the groups. -/
theorem pre_bd (want : Bool → Bool → Bool) {s pre : List Ev} {x : Ev} (h : pre ++ [x] <+: grp s) (hs : s.length ≤ 1000000) (hb : ∀ e ∈ s, (-1 ≤ e.2.1 ∧ e.2.1 ≤ 1) ∧ (-1 ≤ e.2.2 ∧ e.2.2 ≤ 1)) (ht : ∀ e ∈ s, 0 ≤ e.1 ∧ e.1 ≤ 253402300800) :
    ((-1000000000000 ≤ (jst want pre).m0 ∧ (jst want pre).m0 ≤ 1000000000000) ∧ (-1000000000000 ≤ (jst want pre).m1 ∧ (jst want pre).m1 ≤ 1000000000000)) ∧ ((-1000000 ≤ x.2.1 ∧ x.2.1 ≤ 1000000) ∧ (-1000000 ≤ x.2.2 ∧ x.2.2 ≤ 1000000)) ∧ (0 ≤ x.1 ∧ x.1 ≤ 253402300800) ∧ pre.length < 1000000 := by
  have hl := h.length_le
  have hg := grp_len s
  simp at hl
  have bd := grp_bd hb
  have hsub := h.subset
  have key := jst_bd want pre js0 1000000 0 (by omega) (fun e he => by have := bd e (hsub (by simp [he])); omega) (by simp [js0]) (by simp [js0])
  have hx := bd x (hsub (by simp))
  obtain ⟨d, hd, he⟩ := grp_mem (hsub (show x ∈ pre ++ [x] by simp))
  have := ht d hd
  unfold jst
  refine ⟨?_, by omega, by omega, by omega⟩
  omega
theorem jst_out_len (want : Bool → Bool → Bool) (pre : List Ev) : (jst want pre).out.length ≤ pre.length := by
  have key : ∀ (pre : List Ev) (st : JS), (pre.foldl (jstep want) st).out.length ≤ st.out.length + pre.length := by
    intro pre
    induction pre with
    | nil => intro st; simp
    | cons e r ih =>
      intro st
      refine Nat.le_trans (ih _) ?_
      have : (jstep want st e).out.length ≤ st.out.length + 1 := by
        rcases st with ⟨m0, m1, op, acc⟩
        rcases hw : want (decide (0 < m0 + e.2.1)) (decide (0 < m1 + e.2.2)) with _ | _ <;> cases op <;> simp [jstep, hw, JS.out]
      simp
      omega
  have h := key pre js0
  rw [show js0.out.length = 0 from rfl, Nat.zero_add] at h
  exact h
end Go.Proofs.Ytaedijppbghnaaa.Bk
