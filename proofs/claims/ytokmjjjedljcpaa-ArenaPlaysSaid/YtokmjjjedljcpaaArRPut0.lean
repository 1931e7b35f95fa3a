/- ArRPut0: texts for the statements of this seat: contracts of functions, walks, plain laws. Conditions: none. -/
import Derived.Deep.Cut
import Derived.Deep.CutRange
import Derived.Deep.DeepCutAuto
import Derived.Test.YtokmjjjedljcpaaArRFree
set_option linter.all false
/- Put of the document's arena. -/
namespace Go.Proofs.Ytokmjjjedljcpaa
open Go.RowKit
theorem rhandle2_c {w : World} {base rb : Nat} {v1 v2 v3 v4 : Value} {a : AA} (h : IsR w base rb v1 v2 v3 v4 a) (hl : a.sl.length ≤ 4096) {k : Nat} {s : U} (hs : a.sl[k]? = some s) (hu : 0 ≤ s.use ∧ s.use ≤ 2147483648) : Calls Try.prog 33 #[.pointer (some ⟨rb, 0, none⟩), .int .i64 k] w fun e w' => e = .returned (.int .i64 (4096 * s.use + k)) ∧ w = w' := by
  obtain ⟨g, c, rfl, hc, u0, -, hk, -⟩ := own_cell h.uses (k := k) (u := .int .i64 s.use) (by rw [List.getElem?_map, hs]; rfl)
  have c1 := h.hd.get (j := 1) rfl
  have cl := h.hd.lt
  have i1 : (0 : Int) ≤ (k : Int) := by omega
  have i2 : (k : Int) < (a.sl.length : Int) := by omega
  have w1 : wrap64 (4096 * s.use) = 4096 * s.use := IntWalk.wrap64_in _ (by omega)
  have w2 : wrap64 (4096 * s.use + (k : Int)) = 4096 * s.use + (k : Int) := IntWalk.wrap64_in _ (by omega)
  clear h
  go_enter Try.func33, Try.ntmps33
  go_wp2
  go_ret
  exact ⟨rfl, rfl⟩
/-- Three stores fill a slot. -/
theorem filled {w wx : World} {base rb : Nat} {p1 p2 p3 : Option Addr} {n c1 c2 c3 : Nat} {v4 v4' : Value} {a : AA} {r : List Nat} {k : Nat} {s : U} (h : IsR wx base rb (.slice p1 n c1) (.slice p2 n c2) (.slice p3 n c3) v4' { a with fl := r }) (hn : a.sl.length = n) (hl : n ≤ 4096) (hs : a.sl[k]? = some s) (hu : 0 ≤ s.use ∧ s.use < 2147483648) (v : Int)
    (K : Kept (FR rb (.slice p1 n c1) (.slice p2 n c2) (.slice p3 n c3) v4) w wx) (hb : ∀ b, v4'.ownBlock = some b → v4.ownBlock = some b ∨ w.heap.size ≤ b) :
    ∃ g1 g2 g3, p1 = some ⟨g1, 0, none⟩ ∧ p2 = some ⟨g2, 0, none⟩ ∧ p3 = some ⟨g3, 0, none⟩ ∧ k < n ∧
      (wx.cell? ⟨rb, 1, none⟩ = some (.slice (some ⟨g1, 0, none⟩) n c1) ∧ rb < wx.heap.size ∧ wx.cell? ⟨g1, k, none⟩ = some (.int .i64 s.use) ∧ wx.frozen? ⟨g1, k, none⟩ = false) ∧
      ((wx.setCell ⟨g1, k, none⟩ (.int .i64 (s.use + 1))).cell? ⟨rb, 2, none⟩ = some (.slice (some ⟨g2, 0, none⟩) n c2) ∧ (wx.setCell ⟨g1, k, none⟩ (.int .i64 (s.use + 1))).cell? ⟨g2, k, none⟩ = some (.bool s.taken) ∧ (wx.setCell ⟨g1, k, none⟩ (.int .i64 (s.use + 1))).frozen? ⟨g2, k, none⟩ = false) ∧
      (((wx.setCell ⟨g1, k, none⟩ (.int .i64 (s.use + 1))).setCell ⟨g2, k, none⟩ (.bool true)).cell? ⟨rb, 3, none⟩ = some (.slice (some ⟨g3, 0, none⟩) n c3) ∧ ((wx.setCell ⟨g1, k, none⟩ (.int .i64 (s.use + 1))).setCell ⟨g2, k, none⟩ (.bool true)).cell? ⟨g3, k, none⟩ = some (.int .i64 s.v) ∧ ((wx.setCell ⟨g1, k, none⟩ (.int .i64 (s.use + 1))).setCell ⟨g2, k, none⟩ (.bool true)).frozen? ⟨g3, k, none⟩ = false) ∧
      Calls Try.prog 33 #[.pointer (some ⟨rb, 0, none⟩), .int .i64 k] (((wx.setCell ⟨g1, k, none⟩ (.int .i64 (s.use + 1))).setCell ⟨g2, k, none⟩ (.bool true)).setCell ⟨g3, k, none⟩ (.int .i64 v)) (fun e w' => e = .returned (.int .i64 (4096 * (s.use + 1) + k)) ∧ (((wx.setCell ⟨g1, k, none⟩ (.int .i64 (s.use + 1))).setCell ⟨g2, k, none⟩ (.bool true)).setCell ⟨g3, k, none⟩ (.int .i64 v)) = w') ∧
      RPost w (((wx.setCell ⟨g1, k, none⟩ (.int .i64 (s.use + 1))).setCell ⟨g2, k, none⟩ (.bool true)).setCell ⟨g3, k, none⟩ (.int .i64 v)) base rb (.slice p1 n c1) (.slice p2 n c2) (.slice p3 n c3) v4 (a.fill k s v r) := by
  subst hn
  obtain ⟨g1, d1, e1, -, u0, u1, hk, -⟩ := own_cell h.uses (k := k) (u := .int .i64 s.use) (by simp [hs])
  obtain ⟨g2, d2, e2, -, -⟩ := own_cell h.tks (k := k) (u := .bool s.taken) (by simp [hs])
  obtain ⟨g3, d3, e3, -, -⟩ := own_cell h.vs (k := k) (u := .int .i64 s.v) (by simp [hs])
  injection e1 with e1 _ f1
  injection e2 with e2 _ f2
  injection e3 with e3 _ f3
  subst e1 e2 e3 f1 f2 f3
  have hkl : k < a.sl.length := (List.getElem?_eq_some_iff.1 hs).1
  have h14 := IsR.setUse (a := { a with fl := r }) h hs (s.use + 1)
  have s14 : (a.sl.set k { s with use := s.use + 1 })[k]? = some { s with use := s.use + 1 } := by rw [List.getElem?_set_self hkl]
  have h14' : IsR (wx.setCell ⟨g1, k, none⟩ (.int .i64 (s.use + 1))) base rb (.slice (some ⟨g1, 0, none⟩) a.sl.length c1) (.slice (some ⟨g2, 0, none⟩) (a.sl.set k { s with use := s.use + 1 }).length c2) (.slice (some ⟨g3, 0, none⟩) a.sl.length c3) v4' ⟨a.sl.set k { s with use := s.use + 1 }, r⟩ := by rw [List.length_set]; exact h14
  have h15 := IsR.setTaken (a := ⟨a.sl.set k { s with use := s.use + 1 }, r⟩) h14' s14 true
  have s15 : ((a.sl.set k { s with use := s.use + 1 }).set k { s with use := s.use + 1, taken := true })[k]? = some { s with use := s.use + 1, taken := true } := by rw [List.getElem?_set_self (by simpa using hkl)]
  have h15' : IsR ((wx.setCell ⟨g1, k, none⟩ (.int .i64 (s.use + 1))).setCell ⟨g2, k, none⟩ (.bool true)) base rb (.slice (some ⟨g1, 0, none⟩) a.sl.length c1) (.slice (some ⟨g2, 0, none⟩) a.sl.length c2) (.slice (some ⟨g3, 0, none⟩) ((a.sl.set k { s with use := s.use + 1 }).set k { s with use := s.use + 1, taken := true }).length c3) v4' ⟨(a.sl.set k { s with use := s.use + 1 }).set k { s with use := s.use + 1, taken := true }, r⟩ := by
    have := h15
    simp only [List.length_set] at this ⊢
    exact this
  have h16 := IsR.setV (a := ⟨(a.sl.set k { s with use := s.use + 1 }).set k { s with use := s.use + 1, taken := true }, r⟩) h15' s15 v
  have hfe : (⟨((a.sl.set k { s with use := s.use + 1 }).set k { s with use := s.use + 1, taken := true }).set k { s with use := s.use + 1, taken := true, v := v }, r⟩ : AA) = a.fill k s v r := by
    unfold AA.fill
    rw [List.set_set, List.set_set]
  have h16' : IsR (((wx.setCell ⟨g1, k, none⟩ (.int .i64 (s.use + 1))).setCell ⟨g2, k, none⟩ (.bool true)).setCell ⟨g3, k, none⟩ (.int .i64 v)) base rb (.slice (some ⟨g1, 0, none⟩) a.sl.length c1) (.slice (some ⟨g2, 0, none⟩) a.sl.length c2) (.slice (some ⟨g3, 0, none⟩) a.sl.length c3) v4' (a.fill k s v r) := by
    have := h16
    simp only [List.length_set] at this
    rw [← hfe]
    exact this
  obtain ⟨y2, z2, q2, -, t0, t1, -⟩ := own_cell h14.tks (k := k) (u := .bool s.taken) (by simp only []; rw [List.getElem?_map, s14]; rfl)
  obtain ⟨y3, z3, q3, -, x0, x1, -⟩ := own_cell h15.vs (k := k) (u := .int .i64 s.v) (by simp only []; rw [List.getElem?_map, s15]; rfl)
  injection q2 with q2 _ _
  injection q2 with q2
  injection q2 with q2
  injection q3 with q3 _ _
  injection q3 with q3
  injection q3 with q3
  subst q2 q3
  refine ⟨g1, g2, g3, rfl, rfl, rfl, hkl, ⟨h.hd.get (j := 1) rfl, h.hd.lt, u0, u1⟩, ⟨h14.hd.get (j := 2) rfl, t0, t1⟩, ⟨h15'.hd.get (j := 3) (by simp), x0, x1⟩, ?_, v4', h16', ?_, hb⟩
  · have hs16 : (a.fill k s v r).sl[k]? = some { use := s.use + 1, taken := true, v := v } := by unfold AA.fill; simp only []; rw [List.getElem?_set_self hkl]
    exact rhandle2_c h16' (by unfold AA.fill; simp only [List.length_set]; exact hl) hs16 (by simp only []; omega)
  · refine ((K.trans (kept_set wx g1 k _) (fun b _ (q : b = g1) => ?_)).trans (kept_set _ g2 k _) (fun b _ (q : b = g2) => ?_)).trans (kept_set _ g3 k _) (fun b _ (q : b = g3) => ?_)
    · exact .inr (.inl (by rw [q]; rfl))
    · exact .inr (.inr (.inl (by rw [q]; rfl)))
    · exact .inr (.inr (.inr (.inl (by rw [q]; rfl))))
end Go.Proofs.Ytokmjjjedljcpaa
