/- ArRFree: texts for the statements of this seat: contracts of functions, walks, plain laws. Conditions: none. -/
import Derived.Test.YtokmjjjedljcpaaArRSet
set_option linter.all false
/- Free of the document's arena. -/
namespace Go.Proofs.Ytokmjjjedljcpaa
open Go.RowKit
theorem Try.info3r : (Try.prog.info? 3).map (fun i => (i.zero, i.size, i.bytes)) = some (some (.int .i64 0), 1, 8) := by kernel_rfl
theorem el73r : ElemOk Try.prog 73 3 1 8 := .mk' Try.underlying73 Try.info3r rfl (by decide)
theorem nodup_len : ∀ (n : Nat) (l : List Nat), l.Nodup → (∀ x ∈ l, x < n) → l.length ≤ n
  | 0, l, _, h => by
    cases l with
    | nil => simp
    | cons x l => have := h x (by simp); omega
  | n + 1, l, hn, h => by
    have h1 := nodup_len n (l.filter (· != n)) (hn.filter _) (fun x hx => by
      have := h x (List.mem_filter.1 hx).1
      have h2 := (List.mem_filter.1 hx).2
      simp at h2
      omega)
    have h3 : l.length ≤ (l.filter (· != n)).length + 1 := by
      clear h1 h
      induction l with
      | nil => simp
      | cons a l ih =>
        rw [List.nodup_cons] at hn
        by_cases ha : a = n
        · subst ha
          have hf : l.filter (· != a) = l := List.filter_eq_self.2 fun b hb => by
            have : b ≠ a := fun q => hn.1 (q ▸ hb)
            simpa using this
          rw [List.filter_cons_of_neg (by simp), hf]
          simp
        · rw [List.filter_cons_of_pos (by simpa using ha)]
          have := ih hn.2
          simp only [List.length_cons]
          omega
    omega
theorem AOk.fll {a : AA} (ok : AOk a) : a.fl.length ≤ 4096 := by
  have := nodup_len a.sl.length a.fl ok.nodup (fun k hk => by
    obtain ⟨s, hs, -⟩ := ok.fl k hk
    exact (List.getElem?_eq_some_iff.1 hs).1)
  have := ok.len
  omega
theorem IsR.ltF {w : World} {base rb : Nat} {v1 v2 v3 v4 : Value} {a : AA} (h : IsR w base rb v1 v2 v3 v4 a) {b : Nat} (hb : FR rb v1 v2 v3 v4 b) : b < w.heap.size ∧ base ≤ b := by
  rcases hb with rfl | q | q | q | q
  · exact ⟨h.hd.lt, h.lo⟩
  · have := ownsRow_block h.uses q; exact ⟨this.2, this.1⟩
  · have := ownsRow_block h.tks q; exact ⟨this.2, this.1⟩
  · have := ownsRow_block h.vs q; exact ⟨this.2, this.1⟩
  · have := ownsRow_block h.frd q; exact ⟨this.2, this.1⟩
/-- What a call that changes the arena leaves. -/
def RPost (w w' : World) (base rb : Nat) (v1 v2 v3 v4 : Value) (a' : AA) : Prop := ∃ v4', IsR w' base rb v1 v2 v3 v4' a' ∧ Kept (FR rb v1 v2 v3 v4) w w' ∧ (∀ b, v4'.ownBlock = some b → v4.ownBlock = some b ∨ w.heap.size ≤ b)
set_option maxHeartbeats 1000000 in
theorem rfree_c {w : World} {base rb : Nat} {v1 v2 v3 v4 : Value} {a a' : AA} (h : IsR w base rb v1 v2 v3 v4 a) (ok : AOk a) {hh er : Int} (hp : a.free hh = (a', er)) :
    Calls Try.prog 21 #[.pointer (some ⟨rb, 0, none⟩), .int .i64 hh] w fun e w' => e = .returned (.int .i64 er) ∧ RPost w w' base rb v1 v2 v3 v4 a' := by
  have HF := Lib.hid (rfind_c h ok hh)
  have HI := Lib.hid h
  unfold AA.free at hp
  cases hf : a.find hh with
  | none =>
    rw [hf] at hp
    injection hp with e1 e2
    subst e1 e2
    have ha : a.at_ hh = -1 := by unfold AA.at_; rw [hf]
    rw [ha] at HF
    clear h ok hf ha
    go_enter Try.func21, Try.ntmps21
    go_wp2_with (go_at_call 32; refine (rmade_c HI.out).mono ?_; rintro e w' ⟨rfl, rfl⟩)
    refine HF.out.mono ?_
    rintro e w1 ⟨rfl, K⟩
    have HK := Lib.hid K
    clear K
    go_wp2
    go_ret
    exact ⟨rfl, v4, HI.out.same HK.out, HK.out.mono (fun _ _ q => q.elim), fun b q => .inl q⟩
  | some p =>
    obtain ⟨k, s⟩ := p
    rw [hf] at hp
    injection hp with e1 e2
    subst e2
    have HE := Lib.hid e1.symm
    clear e1
    have ha : a.at_ hh = (k : Int) := by unfold AA.at_; rw [hf]
    obtain ⟨hs, -, -⟩ := find_hit hf
    rw [ha] at HF
    have hl := ok.len
    have hfl := ok.fll
    have huse := ok.use k s hs
    have hkl := (List.getElem?_eq_some_iff.1 hs).1
    have HS := Lib.hid hs
    clear h ok hf ha
    go_enter Try.func21, Try.ntmps21
    go_wp2_with (go_at_call 32; refine (rmade_c HI.out).mono ?_; rintro e w' ⟨rfl, rfl⟩)
    refine HF.out.mono ?_
    rintro e w1 ⟨rfl, K⟩
    have h1 := HI.out.same K
    have HK := Lib.hid K
    obtain ⟨g2, c2, rfl, hc2, t0, t1, hk, hg2, -⟩ := own_cell h1.tks (k := k) (u := .bool s.taken) (by rw [List.getElem?_map, hs]; rfl)
    obtain ⟨g1, c1, rfl, hc1, u0, -, -, hg1, -⟩ := own_cell h1.uses (k := k) (u := .int .i64 s.use) (by rw [List.getElem?_map, hs]; rfl)
    have h2 := h1.setTaken hs false
    have K2 : Kept (FR rb (.slice (some ⟨g1, 0, none⟩) a.sl.length c1) (.slice (some ⟨g2, 0, none⟩) a.sl.length c2) v3 v4) w (w1.setCell ⟨g2, k, none⟩ (.bool false)) := (HK.out.mono (fun _ _ q => q.elim)).trans (kept_set w1 g2 k (.bool false)) (fun b _ (q : b = g2) => .inr (.inr (.inl (by rw [q]; rfl))))
    have HK2 := Lib.hid K2
    have HI2 := Lib.hid h2
    have d1 := h1.hd.get (j := 2) rfl
    have dl := h1.hd.lt
    have f1 := h2.hd.get (j := 1) rfl
    have f4 := h2.hd.get (j := 4) rfl
    have fl' := h2.hd.lt
    have ff := h2.hd.fz 4
    have hu2 : (w1.setCell ⟨g2, k, none⟩ (.bool false)).cell? ⟨g1, k, none⟩ = some (.int .i64 s.use) := by
      have hne : g1 ≠ g2 := fun q => (h1.a1 g1 rfl).2.1 (by rw [q]; rfl)
      rw [cell_set_blk _ _ _ _ hne]
      exact u0
    have i1 : (0 : Int) ≤ (k : Int) := by omega
    have i2 : (k : Int) < (a.sl.length : Int) := by omega
    obtain ⟨p4, c4, hv4⟩ := own_v h2.frd
    simp only [] at hv4
    subst hv4
    have hsize : (w1.setCell ⟨g2, k, none⟩ (.bool false)).heap.size = w1.heap.size := by simp
    have HSZ := Lib.hid hsize
    have HKS := Lib.hid HK.out.size
    clear K K2 h1 h2 hs hsize
    by_cases hlt : s.use < 2147483648
    · have b1 : decide (s.use < 2147483648) = true := decide_eq_true hlt
      have HE2 : Hid (a' = { sl := a.sl.set k { s with taken := false }, fl := k :: a.fl }) := Lib.hid (by rw [HE.out, if_neg (by omega)])
      have HOW : Hid ((w1.setCell ⟨g2, k, none⟩ (.bool false)).ownsRow base 3 1 (.slice p4 a.fl.length c4) a.fl.length (a.fl.reverse.map fun (k : Nat) => Value.int .i64 k)) := Lib.hid HI2.out.frd
      have HBS : Hid (base ≤ (w1.setCell ⟨g2, k, none⟩ (.bool false)).heap.size) := Lib.hid (by have := HI2.out.lo; have := HI2.out.hd.lt; omega)
      have HFIN : Hid (∀ gg cc w5, w5.ownsRow base 3 1 (.slice (some ⟨gg, 0, none⟩) (a.fl.length + 1) cc) (a.fl.length + 1) ((a.fl.reverse.map fun (k : Nat) => Value.int .i64 k) ++ [.int .i64 (k : Nat)]) → Kept (fun b => (Value.slice p4 a.fl.length c4).ownBlock = some b) (w1.setCell ⟨g2, k, none⟩ (.bool false)) w5 → ((Value.slice p4 a.fl.length c4).ownBlock = some gg ∨ (w1.setCell ⟨g2, k, none⟩ (.bool false)).heap.size ≤ gg) →
          RPost w (w5.setCell ⟨rb, 4, none⟩ (.slice (some ⟨gg, 0, none⟩) (a.fl.length + 1) cc)) base rb (.slice (some ⟨g1, 0, none⟩) a.sl.length c1) (.slice (some ⟨g2, 0, none⟩) a.sl.length c2) v3 (.slice p4 a.fl.length c4) a' ∧ w5.cell? ⟨rb, 4, none⟩ = some (.slice p4 a.fl.length c4) ∧ w5.frozen? ⟨rb, 4, none⟩ = false ∧ rb < w5.heap.size) := Lib.hid fun gg cc w5 ho K5 hor => by
        have hd5 := RowAt.kept HI2.out.hd K5 (fun q => HI2.out.a4 rb q rfl)
        refine ⟨⟨.slice (some ⟨gg, 0, none⟩) (a.fl.length + 1) cc, ?_, ?_, ?_⟩, hd5.get (j := 4) rfl, hd5.fz 4, hd5.lt⟩
        · rw [HE2.out]
          refine HI2.out.setFreed2 (fl' := k :: a.fl) K5 (by rw [List.reverse_cons, List.map_append]; exact ho) (fun b q => ?_)
          simp only [Value.ownBlock, Option.some.injEq] at q
          subst q
          rcases hor with r | r
          · exact .inl r
          · right
            intro z
            have := (HI2.out.ltF z).1
            omega
        · refine (HK2.out.trans K5 (fun b _ q => .inr (.inr (.inr (.inr q))))).trans (kept_set w5 rb 4 _) (fun b _ (q : b = rb) => .inl q)
        · intro b q
          simp only [Value.ownBlock, Option.some.injEq] at q
          subst q
          rcases hor with r | r
          · exact .inl r
          · right
            rw [HSZ.out] at r
            exact Nat.le_trans HKS.out r
      clear hlt
      go_wp2_with (at_builtin; go_loud (refine wpList_appN el73r rfl (.tmp 32) (.tmp 34) rfl (news := [.int .i64 (k : Nat)]) base (.slice p4 a.fl.length c4) a.fl.length 1 (a.fl.reverse.map fun (k : Nat) => Value.int .i64 k) rfl HOW.out (by simp [Act.eval]) rfl (by decide) (by simp [Value.oneCell']) (by unfold maxLen; omega) (by omega) HBS.out ?_))
      intro gg cc w5 hown5 K5 hor5
      rw [← List.map_reverse] at hown5
      obtain ⟨hfin, q1, q2, q3⟩ := HFIN.out gg cc w5 hown5 K5 (by rw [HSZ.out]; exact hor5)
      have HFI := Lib.hid hfin
      clear hfin hown5 K5 hor5 HFIN
      go_wp2
      go_ret
      exact ⟨rfl, HFI.out⟩
    · have b1 : decide (s.use < 2147483648) = false := decide_eq_false hlt
      have HFI : Hid (RPost w (w1.setCell ⟨g2, k, none⟩ (.bool false)) base rb (.slice (some ⟨g1, 0, none⟩) a.sl.length c1) (.slice (some ⟨g2, 0, none⟩) a.sl.length c2) v3 (.slice p4 a.fl.length c4) a') := Lib.hid (by
        rw [HE.out, if_pos (by omega)]
        exact ⟨_, HI2.out, HK2.out, fun b q => .inl q⟩)
      clear hlt
      go_wp2
      go_ret
      exact ⟨rfl, HFI.out⟩
end Go.Proofs.Ytokmjjjedljcpaa
