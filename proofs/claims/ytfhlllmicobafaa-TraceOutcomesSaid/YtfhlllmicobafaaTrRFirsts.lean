/- TrRFirsts: texts for the statements of this seat: contracts of functions, walks, plain laws. Conditions: none. -/
import Derived.Test.YtfhlllmicobafaaTrRefs
import Derived.Test.YtfhlllmicobafaaTrFirsts
import Derived.Test.YtfhlllmicobafaaGeAll
set_option linter.all false
/- Firsts of the reference. -/
namespace Go.Proofs.Ytfhlllmicobafaa
open Go.RowKit
open Tr (Ev ofB)

theorem ins_at : ∀ {y : Int} {s : List Int} {j : Nat}, j ≤ s.length → (∀ a ∈ s.take j, a < y) → (∀ a, s[j]? = some a → y < a) → Tr.ins y s = s.take j ++ y :: s.drop j
  | y, [], j, hj, _, _ => by simp [Tr.ins]
  | y, a :: s, 0, _, _, h2 => by
    have := h2 a rfl
    simp only [Tr.ins, List.take_zero, List.drop_zero, List.nil_append]
    rw [if_neg (by omega), if_neg (by omega)]
  | y, a :: s, j + 1, hj, h1, h2 => by
    have ha := h1 a (by simp)
    have := ins_at (y := y) (s := s) (j := j) (by simpa using hj) (fun b hb => h1 b (by simp [hb])) (fun b hb => h2 b (by simpa using hb))
    simp only [Tr.ins, List.take_succ_cons, List.drop_succ_cons, List.cons_append]
    rw [if_pos ha, this]
theorem ins_same : ∀ {y : Int} {s : List Int} {j : Nat}, (∀ a ∈ s.take j, a < y) → s[j]? = some y → Tr.ins y s = s
  | y, [], j, _, h => by simp at h
  | y, a :: s, 0, _, h => by
    simp at h
    subst h
    simp [Tr.ins]
  | y, a :: s, j + 1, h1, h => by
    have ha := h1 a (by simp)
    have := ins_same (y := y) (s := s) (j := j) (fun b hb => h1 b (by simp [hb])) (by simpa using h)
    simp only [Tr.ins]
    rw [if_pos ha, this]
theorem firstsR_snoc {l : List Ev} {j : Nat} {x : Ev} (job : Int) (hx : l[j]? = some x) : Tr.firstsR job (l.take (j + 1)) = if Tr.firstB job x = true then Tr.ins x.due (Tr.firstsR job (l.take j)) else Tr.firstsR job (l.take j) := by
  rw [Tr.take_snoc' hx]
  unfold Tr.firstsR Tr.dues
  rw [List.filter_append, List.map_append, List.foldl_append]
  by_cases h : Tr.firstB job x = true
  · rw [if_pos h]; simp [h]
  · rw [if_neg h]; simp [h]
theorem Ints.takeI {w : World} {p : Option Addr} {m c : Nat} {xs : List Int} (h : Ints w (.slice p m c) xs) {k : Nat} (hk : k ≤ xs.length) : Ints w (.slice p k c) (xs.take k) := by
  rcases h with ⟨b, cap, hv, rfl⟩ | ⟨b, off, cap, hv, hb, hc⟩
  · have : k = 0 := by simpa using hk
    subst this
    exact .inl ⟨_, _, rfl, rfl⟩
  · injection hv with e1 e2 e3
    subst e1 e3
    refine .inr ⟨b, off, c, by rw [List.length_take, Nat.min_eq_left hk], hb, fun j x hx => ?_⟩
    rw [List.getElem?_take] at hx
    split at hx
    · exact hc j x hx
    · cases hx
theorem Ints.dropI {w : World} {b off m c : Nat} {xs : List Int} (h : Ints w (.slice (some ⟨b, off, none⟩) m c) xs) (hb0 : b < w.heap.size) {k : Nat} (hk : k ≤ xs.length) : Ints w (.slice (some ⟨b, off + k, none⟩) (xs.length - k) (c - k)) (xs.drop k) := by
  rcases h with ⟨b', cap, hv, rfl⟩ | ⟨b', off', cap, hv, hb, hc⟩
  · have : k = 0 := by simpa using hk
    subst this
    exact .inl ⟨_, _, rfl, rfl⟩
  · injection hv with e1 e2 e3
    injection e1 with e1
    injection e1 with e1 e1'
    subst e1 e1' e3
    refine .inr ⟨b, off + k, c - k, by rw [List.length_drop], hb, fun j x hx => ?_⟩
    rw [List.getElem?_drop] at hx
    have := hc _ x hx
    rw [← this]
    congr 2
    omega
theorem wpList_appInts0 {P : Program} {t e : Nat} (E : ElemOk P t e 1 8) {ops : Array Oper} {rest : List Oper} {o : Oper} {a : Act} {Q : Exit → Act → World → Prop} (hgd : o.guard = none) (s x : Operand)
    (ho : o.op = .call { callee := .builtin .append, args := #[s, x], argTypes := #[t, t] }) {W : World} (u : Value) (ys : List Int) (hs : a.eval s = .slice none 0 0) (hx : a.eval x = u)
    (hu : Ints W u ys) (h63 : ys.length ≤ 1000000000)
    (h : ∀ v' w', w'.ownsRow W.heap.size e 1 v' ys.length (ys.map (Value.int .i64)) → Kept (fun _ => False) W w' → wpList P ops Q rest (a.put o.dst v') w') :
    wpList P ops Q (o :: rest) a W := by
  refine wpList_appInts E hgd s x ho W.heap.size (.slice none 0 0) u 0 [] ys hs hx ⟨rfl, .inl ⟨rfl, rfl⟩⟩ hu (by omega) (Nat.le_refl _) fun v' w' h1 h2 => h v' w' (by simpa using h1) (h2.mono fun b _ q => by simp [Value.ownBlock] at q)

theorem RO.ints1 {w wk : World} {v : Value} {xs : List Int} {e : Nat} (h : RO (fun x : Int => [Value.int .i64 x]) 1 e w wk v xs) : Ints wk v xs := by
  have := h.1
  rw [cells_ints] at this
  exact IntsK.of_own this
theorem RO.shape {w wk : World} {v : Value} {xs : List Int} {e : Nat} (h : RO (fun x : Int => [Value.int .i64 x]) 1 e w wk v xs) : (v = .slice none 0 0 ∧ xs = []) ∨ ∃ g c, v = .slice (some ⟨g, 0, none⟩) xs.length c ∧ xs.length ≤ c ∧ w.heap.size ≤ g ∧ g < wk.heap.size := by
  rcases h.1.2 with ⟨rfl, h0⟩ | ⟨g, cap, cur, rfl, hg, hh, hcap, -⟩
  · exact .inl ⟨rfl, List.eq_nil_of_length_eq_zero h0⟩
  · exact .inr ⟨g, cap, rfl, hcap, hg, (Array.getElem?_eq_some_iff.1 hh).1⟩
theorem ownsRow_cap {w : World} {base e n g c k : Nat} {xs : List Value} (h : w.ownsRow base e n (.slice (some ⟨g, 0, none⟩) k c) k xs) : k ≤ c := by
  rcases h.2 with ⟨q, -⟩ | ⟨g', cap', cur, q, _, _, h1, -⟩
  · cases q
  · injection q with _ _ e3; omega
/-- A number put among others: what the three appends have made. -/
theorem iro_three {w1 wb wd : World} {B g2 c2 j : Nat} {v3 : Value} {y : Int} {out : List Int} (hb : w1.heap.size ≤ wb.heap.size) (hB : wb.heap.size ≤ B) (hj : j ≤ out.length) (K : Kept (fun _ => False) w1 wd)
    (h : wd.ownsRow B 2 1 v3 (j + 1 + (out.drop j).length) (((out.take j).map (Value.int .i64) ++ [.int .i64 y]) ++ (out.drop j).map (Value.int .i64))) : IRO w1 wd v3 (out.take j ++ y :: out.drop j) := by
  refine ⟨?_, K.size, K⟩
  rw [cells_ints]
  have e : (out.take j ++ y :: out.drop j).length = j + 1 + (out.drop j).length := by rw [List.length_append, List.length_take, Nat.min_eq_left hj, List.length_cons]; omega
  rw [e]
  have := ownsRow_base h (Nat.le_trans hb hB)
  simpa using this
set_option maxRecDepth 100000 in
set_option maxHeartbeats 4000000 in
theorem rfirsts_c {w : World} {v : Value} {l : List Ev} (h : Evs w v l) (hw : EvW l) (hl : l.length ≤ 100000) (job : Int) :
    Calls Try.prog 36 #[v, .int .i64 job] w (LaunPost w (wrongE l job 0 63) (Tr.firstsR job l)) := by
  have HC := Lib.hid (wrong_c h hw (by omega) job 0 63)
  have HQ := Lib.hid h
  obtain ⟨aa, cap, rfl⟩ := h.len
  obtain ⟨N, hN⟩ : ∃ N : Nat, N = l.length := ⟨_, rfl⟩
  obtain ⟨c, hc⟩ : ∃ c, wrongE l job 0 63 = c := ⟨_, rfl⟩
  rw [hc] at HC ⊢
  rw [← hN] at hl HC HQ ⊢
  have HN := Lib.hid hN
  clear h hN hw hc
  by_cases hc0 : ¬ c = 0
  · have hb1 : (c != 0) = true := by simpa using hc0
    have hb2 : (c == 0) = false := by simpa using hc0
    go_enter Try.func36, Try.ntmps36
    go_wp2_with (go_at_call 50; fail)
    refine HC.out.mono ?_
    rintro e w1 ⟨rfl, K1⟩
    have HF : Hid (LaunPost w c (Tr.firstsR job l) (.returned (.tuple #[.slice none 0 0, .int .i64 c])) w1) := Lib.hid ⟨_, rfl, by rw [if_neg hc0]; exact (RO.start _ _ _ w).move K1⟩
    clear K1 hc0
    go_wp2
    go_ret2
    exact HF.out
  · obtain rfl := Decidable.not_not.1 hc0
    clear hc0
    go_enter Try.func36, Try.ntmps36
    go_wp2_with (go_at_call 50; fail)
    refine HC.out.mono ?_
    rintro e w1 ⟨rfl, K1⟩
    have HK1 := Lib.hid K1
    have HR0 := Lib.hid (RO.start (fun x : Int => [Value.int .i64 x]) 1 2 w1)
    clear K1
    go_wp2
    go_loopw [7, 8] (fun s i wr => ∃ (j : Nat) (out : List Int), j ≤ N ∧ i = .int .i64 j ∧ out = Tr.firstsR job (l.take j) ∧ out.length ≤ j ∧ IRO w1 wr s out) (fun _ i _ => match i with | .int _ x => (N - x).toNat | _ => 0)
    case atStart => exact ⟨0, [], Nat.zero_le _, rfl, rfl, Nat.zero_le _, HR0.out⟩
    case round =>
      obtain ⟨i, out, hj, rfl, hout, hol, hrs⟩ := hrel
      have HOUT := Lib.hid hout
      have HS := Lib.hid hrs
      obtain ⟨ps, cs, rfl⟩ := hrs.val
      clear hout hrs
      by_cases hlt : i < N
      · obtain ⟨b0, off, cap', hv, hcp, hb0, hrows⟩ := ((HQ.out.same HK1.out).same HS.out.2.2).pos (by have := HN.out; omega)
        rw [← HN.out] at hv
        injection hv with e1 e2 e3
        subst e1 e3
        have hjl : i < l.length := by have := HN.out; omega
        have HX := Lib.hid (get_of hjl)
        have HFS := Lib.hid (firstsR_snoc job HX.out)
        have hx8 := hrows.ev HX.out
        generalize l[i] = x at HX hx8 HFS
        have i1 : (0 : Int) ≤ (i : Int) := by omega
        have i2 : (i : Int) < N := by omega
        obtain ⟨a0, a1, a2, a3, a4, a5, a6, a7⟩ := hx8
        clear hrows e2
        have HKE : Hid (Kept (fun _ => False) wr (wr.alloc (.cells #[.int .i64 x.kind, .int .i64 x.t, .int .i64 x.job, .int .i64 x.due, .int .i64 x.att, .int .i64 x.run, .int .i64 x.why, .int .i64 x.whn] 35))) := Lib.hid ((Kept.refl _ _).alloc _)
        have HRE := Lib.hid (RowAt.new wr 35 #[.int .i64 x.kind, .int .i64 x.t, .int .i64 x.job, .int .i64 x.due, .int .i64 x.att, .int .i64 x.run, .int .i64 x.why, .int .i64 x.whn])
        have HSK := Lib.hid (HS.out.move HKE.out)
        have HNO : Hid (Tr.firstB job x = false → out = Tr.firstsR job (l.take (i + 1))) := Lib.hid fun q => by rw [HFS.out, if_neg (by rw [q]; simp), HOUT.out]
        by_cases kj : x.job = job
        · by_cases k1 : x.kind = 1
          · have t1 : (x.kind != 1) = false := by simpa using k1
            have HYES : Hid (Tr.firstB job x = true) := Lib.hid (by simp [Tr.firstB, k1, kj])
            have tj : (x.job != job) = false := by simpa using kj
            clear HNO
            clear kj
            try clear k1
            try clear k5
            obtain ⟨wo, hwo⟩ : ∃ wo : World, wo = wr := ⟨_, rfl⟩
            subst hwo
            go_wp2
            go_loopw [10] (fun q wr => ∃ j : Nat, j ≤ out.length ∧ q = .int .i64 j ∧ (∀ a ∈ out.take j, a < x.due) ∧ Kept (fun _ => False) (wo.alloc (.cells #[.int .i64 x.kind, .int .i64 x.t, .int .i64 x.job, .int .i64 x.due, .int .i64 x.att, .int .i64 x.run, .int .i64 x.why, .int .i64 x.whn] 35)) wr) (fun q _ => match q with | .int _ z => (out.length - z).toNat | _ => 0)
            case atStart => exact ⟨0, Nat.zero_le _, rfl, by simp, Kept.refl _ _⟩
            case round =>
              obtain ⟨j, hj2, rfl, hall, K⟩ := hrel
              have HJ := Lib.hid hj2
              have HOL := Lib.hid hol
              have HALL := Lib.hid hall
              have HK := Lib.hid K
              clear hall K
              have j1 : (0 : Int) ≤ (j : Int) := by omega
              have c3 := (HRE.out.same HK.out).get (j := 3) rfl
              have cl := (HRE.out.same HK.out).lt
              rcases HSK.out.shape with ⟨hv, rfl⟩ | ⟨g, cc, hv, hcc, -, hgb⟩
              · injection hv with e1 e2 e3
                subst e1 e3
                obtain rfl : j = 0 := by simpa using hj2
                have HAFT : Hid (∀ a, ([] : List Int)[0]? = some a → x.due < a) := Lib.hid (by simp)
                have HNX : Hid (Tr.firstsR job (l.take (i + 1)) = ([] : List Int).take 0 ++ x.due :: ([] : List Int).drop 0) := Lib.hid (by rw [HFS.out, if_pos HYES.out, ← HOUT.out]; exact ins_at (Nat.le_refl 0) HALL.out HAFT.out)
                have HTK : Hid (∀ W, Kept (fun _ => False) wr W → Ints W (.slice none 0 0) (([] : List Int).take 0)) := Lib.hid fun W KW => Ints.takeI (k := 0) (((HSK.out.move HK.out).ints1).same KW) (Nat.le_refl 0)
                have HDR : Hid (∀ W S, Kept S wr W → (∀ b, S b → wr.heap.size ≤ b) → Ints W (.slice none 0 0) (([] : List Int).drop 0)) := Lib.hid fun W S KW hS => .inl ⟨none, 0, rfl, by simp⟩
                have h32 : 0 ≤ ([] : List Int).length := (Nat.le_refl 0)
                have HLT : Hid ((([] : List Int).take 0).length = 0) := Lib.hid (by rw [List.length_take, Nat.min_eq_left h32])
                have HLD : Hid ((([] : List Int).drop 0).length = ([] : List Int).length - 0) := Lib.hid (by rw [List.length_drop])
                go_wp2
                go_quiet (fail)
                go_wp2
                go_quiet (fail)
                go_wp2_with (at_builtin; go_loud (refine wpList_appInts0 el38 rfl (.tmp 70) (.tmp 73) rfl (.slice none 0 0) (([] : List Int).take 0) rfl rfl (HTK.out _ ((Kept.refl _ _).drewN _)) (by rw [HLT.out]; omega) ?_))
                intro v1 wa o1 ka
                have g4 : Kept (fun _ => False) wr wa := (show Kept (fun _ => False) wr _ from ((Kept.refl _ _).drewN _)).trans ka (fun _ _ h => h)
                have g2 : wa.ownsRow wr.heap.size 2 1 v1 0 ((([] : List Int).take 0).map (Value.int .i64)) := by simpa [List.map_take] using o1
                have g3 := g4.size
                have g1 : wr.heap.size ≤ wr.heap.size := Nat.le_refl _
                obtain ⟨B, hB⟩ : ∃ B, wr.heap.size = B := ⟨_, rfl⟩
                have hB2 : wr.heap.size ≤ B := by omega
                rw [hB] at g2 g3
                replace g1 := hB2
                clear hB2 hB
                have G1 := Lib.hid g1
                have G2 := Lib.hid g2
                have G3 := Lib.hid g3
                have G4 := Lib.hid g4
                have c3 := ((HRE.out.same HK.out).same g4).get (j := 3) rfl
                have cl := ((HRE.out.same HK.out).same g4).lt
                clear o1 ka g1 g2 g3 g4
                go_wp2_with (at_builtin; go_loud (refine wpList_app1 el38 rfl (.tmp 75) (.tmp 78) rfl B v1 0 ((([] : List Int).take 0).map (Value.int .i64)) rfl G2.out (news := [.int .i64 x.due]) rfl rfl (by simp [Value.oneCell']) (by unfold maxLen; omega) (by omega) G3.out ?_))
                intro gg c2 wc own2 k2
                have k3 : Kept (fun b => wr.heap.size ≤ b) wr wc := (G4.out.mono (T := fun b => wr.heap.size ≤ b) (fun _ _ h => h.elim)).trans k2 (fun b hb q => Nat.le_trans G1.out (ownsRow_block G2.out q).1)
                have HKC : Hid (Kept (fun _ => False) wr wc) := Lib.hid (G4.out.trans k2 (fun b hb q => by have := (ownsRow_block G2.out q).1; have := G1.out; omega))
                have HD := Lib.hid (HDR.out wc _ k3 (fun _ q => q))
                have OW : Hid (wc.ownsRow B 2 1 (.slice (some ⟨gg, 0, none⟩) (0 + 1) c2) (0 + 1) ((([] : List Int).take 0).map (Value.int .i64) ++ [.int .i64 x.due])) := Lib.hid (by simpa [List.map_take] using own2)
                have HBC : Hid (B ≤ wc.heap.size) := Lib.hid (Nat.le_trans G3.out k2.size)
                clear own2 k2 k3 c3 cl
                go_wp2_with (at_builtin; go_loud (refine wpList_appInts el38 rfl (.tmp 80) (.tmp 83) rfl B (.slice (some ⟨gg, 0, none⟩) (0 + 1) c2) (.slice none 0 0) (0 + 1) ((([] : List Int).take 0).map (Value.int .i64) ++ [.int .i64 x.due]) (([] : List Int).drop 0) rfl rfl OW.out HD.out (by rw [HLD.out]; have := HOL.out; omega) HBC.out ?_))
                intro v3 wd own3 k4
                have HFIN : Hid (IRO w1 wd v3 (([] : List Int).take 0 ++ x.due :: ([] : List Int).drop 0)) := Lib.hid (iro_three (c2 := c2) (g2 := gg) (wb := wr) (HSK.out.move HK.out).2.1 G1.out (Nat.le_refl 0) (((HSK.out.move HK.out).2.2.trans HKC.out (fun _ _ h => h)).trans k4 (fun b hb q => by have := (ownsRow_block OW.out q).1; have := G1.out; have := (HSK.out.move HK.out).2.1; omega)) (by first | exact own3 | simpa [List.map_take, List.map_drop] using own3))
                have HLN : Hid ((([] : List Int).take 0 ++ x.due :: ([] : List Int).drop 0).length ≤ i + 1) := Lib.hid (by rw [List.length_append, List.length_cons, HLT.out, HLD.out]; have := HOL.out; omega)
                clear own3 k4
                go_wp2
                go_roundw
                case rel => exact ⟨i + 1, _, by omega, by go_num, HNX.out.symm, HLN.out, HFIN.out⟩
                case measure => simp; omega
              · injection hv with e1 e2 e3
                subst e1 e3
                obtain ⟨m, hm⟩ : ∃ m, out.length = m := ⟨_, rfl⟩
                have HM := Lib.hid hm
                have HGB := Lib.hid hgb
                have HO := ((HSK.out.move HK.out).ints1)
                rw [hm] at hol hj2 hcc HO ⊢
                have j2 : (j : Int) ≤ m := by omega
                have j3 : (j : Int) ≤ cs := by omega
                clear hm hgb
                by_cases hlt2 : j < m
                · obtain ⟨y, hy⟩ : ∃ y, out[j]? = some y := ⟨_, List.getElem?_eq_getElem (by have := HM.out; omega)⟩
                  have HY := Lib.hid hy
                  have j4 : (j : Int) < m := by omega
                  have cj : wr.cell? ⟨g, j, none⟩ = some (.int .i64 y) := by
                    rcases HO with ⟨b, cap, q, q2⟩ | ⟨b, off, cap, q, hb, hc⟩
                    · rw [q2] at hy; simp at hy
                    · injection q with q1
                      injection q1 with q1
                      injection q1 with q1 q3
                      subst q1
                      have := hc j y hy
                      rwa [← q3, Nat.zero_add] at this
                  clear hy HO
                  by_cases hyd : y < x.due
                  · have HN2 : Hid (∀ a ∈ out.take (j + 1), a < x.due) := Lib.hid (by
                      rw [List.take_add_one, HY.out]
                      intro a ha
                      rcases List.mem_append.1 ha with ha | ha
                      · exact HALL.out a ha
                      · simp at ha; subst ha; exact hyd)
                    go_wp2
                    go_quiet (fail)
                    go_wp2
                    go_roundw
                    case rel => exact ⟨j + 1, by have := HM.out; omega, by go_num, HN2.out, HK.out.drewN _⟩
                    case measure => simp; have := HM.out; omega
                  · by_cases hye : y = x.due
                    · have HNX : Hid (out = Tr.firstsR job (l.take (i + 1))) := Lib.hid (by rw [HFS.out, if_pos HYES.out, ← HOUT.out]; exact (ins_same HALL.out (hye ▸ HY.out)).symm)
                      have hyb : (y == x.due) = true := by simpa using hye
                      have HYE := Lib.hid hye
                      clear hye
                      have HSM := Lib.hid (HSK.out.move HK.out)
                      rw [HM.out] at HSM
                      go_wp2
                      go_quiet (fail)
                      go_wp2
                      go_quiet (fail)
                      go_wp2
                      go_roundw
                      case rel => exact ⟨i + 1, out, by omega, by go_num, HNX.out, by have := HM.out; omega, HSM.out.move ((Kept.refl _ _).drewN _)⟩
                      case measure => simp; omega
                    · have hyb : (y == x.due) = false := by simpa using hye
                      have HAFT : Hid (∀ a, out[j]? = some a → x.due < a) := Lib.hid (fun a ha => by rw [HY.out] at ha; injection ha with ha; omega)
                      have HNX : Hid (Tr.firstsR job (l.take (i + 1)) = out.take j ++ x.due :: out.drop j) := Lib.hid (by rw [HFS.out, if_pos HYES.out, ← HOUT.out]; exact ins_at HJ.out HALL.out HAFT.out)
                      have HTK : Hid (∀ W, Kept (fun _ => False) wr W → Ints W (.slice (some ⟨g, 0, none⟩) j cs) (out.take j)) := Lib.hid fun W KW => Ints.takeI (((HSK.out.move HK.out).ints1).same KW) HJ.out
                      have HDR : Hid (∀ W S, Kept S wr W → (∀ b, S b → wr.heap.size ≤ b) → Ints W (.slice (some ⟨g, j, none⟩) (m - j) (cs - j)) (out.drop j)) := Lib.hid fun W S KW hS => by
                          have h1 := Ints.dropI (k := j) (((HSK.out.move HK.out).ints1).kept KW (fun b hb hp q => by
                            simp only [Value.ownBlock, Option.some.injEq] at hb
                            have := hS b q
                            have := HGB.out
                            have := HK.out.size
                            omega)) (by have := HGB.out; have := HK.out.size; have := KW.size; omega) HJ.out
                          rw [HM.out, Nat.zero_add] at h1
                          exact h1
                      have h32 : j ≤ out.length := HJ.out
                      have HLT : Hid ((out.take j).length = j) := Lib.hid (by rw [List.length_take, Nat.min_eq_left h32])
                      have HLD : Hid ((out.drop j).length = out.length - j) := Lib.hid (by rw [List.length_drop])
                      go_wp2
                      go_quiet (fail)
                      go_wp2
                      go_quiet (fail)
                      clear cj
                      go_wp2_with (at_builtin; go_loud (refine wpList_appInts0 el38 rfl (.tmp 70) (.tmp 73) rfl (.slice (some ⟨g, 0, none⟩) j cs) (out.take j) rfl rfl (HTK.out _ ((Kept.refl _ _).drewN _)) (by rw [HLT.out]; omega) ?_))
                      intro v1 wa o1 ka
                      have g4 : Kept (fun _ => False) wr wa := (show Kept (fun _ => False) wr _ from ((Kept.refl _ _).drewN _)).trans ka (fun _ _ h => h)
                      have g2 : wa.ownsRow wr.heap.size 2 1 v1 j ((out.take j).map (Value.int .i64)) := by simpa [List.map_take] using o1
                      have g3 := g4.size
                      have g1 : wr.heap.size ≤ wr.heap.size := Nat.le_refl _
                      obtain ⟨B, hB⟩ : ∃ B, wr.heap.size = B := ⟨_, rfl⟩
                      have hB2 : wr.heap.size ≤ B := by omega
                      rw [hB] at g2 g3
                      replace g1 := hB2
                      clear hB2 hB
                      have G1 := Lib.hid g1
                      have G2 := Lib.hid g2
                      have G3 := Lib.hid g3
                      have G4 := Lib.hid g4
                      have c3 := ((HRE.out.same HK.out).same g4).get (j := 3) rfl
                      have cl := ((HRE.out.same HK.out).same g4).lt
                      clear o1 ka g1 g2 g3 g4
                      go_wp2_with (at_builtin; go_loud (refine wpList_app1 el38 rfl (.tmp 75) (.tmp 78) rfl B v1 j ((out.take j).map (Value.int .i64)) rfl G2.out (news := [.int .i64 x.due]) rfl rfl (by simp [Value.oneCell']) (by unfold maxLen; omega) (by omega) G3.out ?_))
                      intro gg c2 wc own2 k2
                      have k3 : Kept (fun b => wr.heap.size ≤ b) wr wc := (G4.out.mono (T := fun b => wr.heap.size ≤ b) (fun _ _ h => h.elim)).trans k2 (fun b hb q => Nat.le_trans G1.out (ownsRow_block G2.out q).1)
                      have HKC : Hid (Kept (fun _ => False) wr wc) := Lib.hid (G4.out.trans k2 (fun b hb q => by have := (ownsRow_block G2.out q).1; have := G1.out; omega))
                      have HD := Lib.hid (HDR.out wc _ k3 (fun _ q => q))
                      have OW : Hid (wc.ownsRow B 2 1 (.slice (some ⟨gg, 0, none⟩) (j + 1) c2) (j + 1) ((out.take j).map (Value.int .i64) ++ [.int .i64 x.due])) := Lib.hid (by simpa [List.map_take] using own2)
                      have HBC : Hid (B ≤ wc.heap.size) := Lib.hid (Nat.le_trans G3.out k2.size)
                      clear own2 k2 k3 c3 cl
                      go_wp2_with (at_builtin; go_loud (refine wpList_appInts el38 rfl (.tmp 80) (.tmp 83) rfl B (.slice (some ⟨gg, 0, none⟩) (j + 1) c2) (.slice (some ⟨g, j, none⟩) (m - j) (cs - j)) (j + 1) ((out.take j).map (Value.int .i64) ++ [.int .i64 x.due]) (out.drop j) rfl rfl OW.out HD.out (by rw [HLD.out]; have := HOL.out; omega) HBC.out ?_))
                      intro v3 wd own3 k4
                      have HFIN : Hid (IRO w1 wd v3 (out.take j ++ x.due :: out.drop j)) := Lib.hid (iro_three (c2 := c2) (g2 := gg) (wb := wr) (HSK.out.move HK.out).2.1 G1.out HJ.out (((HSK.out.move HK.out).2.2.trans HKC.out (fun _ _ h => h)).trans k4 (fun b hb q => by have := (ownsRow_block OW.out q).1; have := G1.out; have := (HSK.out.move HK.out).2.1; omega)) (by first | exact own3 | simpa [List.map_take, List.map_drop] using own3))
                      have HLN : Hid ((out.take j ++ x.due :: out.drop j).length ≤ i + 1) := Lib.hid (by rw [List.length_append, List.length_cons, HLT.out, HLD.out]; have := HOL.out; omega)
                      clear own3 k4
                      go_wp2
                      go_roundw
                      case rel => exact ⟨i + 1, _, by omega, by go_num, HNX.out.symm, HLN.out, HFIN.out⟩
                      case measure => simp; omega
                · have HAFT : Hid (∀ a, out[j]? = some a → x.due < a) := Lib.hid (fun a ha => by
                    rw [List.getElem?_eq_none (by have := HM.out; omega)] at ha
                    cases ha)
                  clear HO
                  by_cases hjc : j < cs
                  · have j4 : (j : Int) < cs := by omega
                    have HJM : Hid (j = m) := Lib.hid (by omega)
                    have HNX : Hid (Tr.firstsR job (l.take (i + 1)) = out.take j ++ x.due :: out.drop j) := Lib.hid (by rw [HFS.out, if_pos HYES.out, ← HOUT.out]; exact ins_at HJ.out HALL.out HAFT.out)
                    have HTK : Hid (∀ W, Kept (fun _ => False) wr W → Ints W (.slice (some ⟨g, 0, none⟩) j cs) (out.take j)) := Lib.hid fun W KW => Ints.takeI (((HSK.out.move HK.out).ints1).same KW) HJ.out
                    have HDR : Hid (∀ W S, Kept S wr W → (∀ b, S b → wr.heap.size ≤ b) → Ints W (.slice (some ⟨g, j, none⟩) (m - j) (cs - j)) (out.drop j)) := Lib.hid fun W S KW hS => by
                        have h1 := Ints.dropI (k := j) (((HSK.out.move HK.out).ints1).kept KW (fun b hb hp q => by
                          simp only [Value.ownBlock, Option.some.injEq] at hb
                          have := hS b q
                          have := HGB.out
                          have := HK.out.size
                          omega)) (by have := HGB.out; have := HK.out.size; have := KW.size; omega) HJ.out
                        rw [HM.out, Nat.zero_add] at h1
                        exact h1
                    have h32 : j ≤ out.length := HJ.out
                    have HLT : Hid ((out.take j).length = j) := Lib.hid (by rw [List.length_take, Nat.min_eq_left h32])
                    have HLD : Hid ((out.drop j).length = out.length - j) := Lib.hid (by rw [List.length_drop])
                    go_wp2
                    go_quiet (fail)
                    go_wp2
                    go_quiet (fail)
                    go_wp2_with (at_builtin; go_loud (refine wpList_appInts0 el38 rfl (.tmp 70) (.tmp 73) rfl (.slice (some ⟨g, 0, none⟩) j cs) (out.take j) rfl rfl (HTK.out _ ((Kept.refl _ _).drewN _)) (by rw [HLT.out]; omega) ?_))
                    intro v1 wa o1 ka
                    have g4 : Kept (fun _ => False) wr wa := (show Kept (fun _ => False) wr _ from ((Kept.refl _ _).drewN _)).trans ka (fun _ _ h => h)
                    have g2 : wa.ownsRow wr.heap.size 2 1 v1 j ((out.take j).map (Value.int .i64)) := by simpa [List.map_take] using o1
                    have g3 := g4.size
                    have g1 : wr.heap.size ≤ wr.heap.size := Nat.le_refl _
                    obtain ⟨B, hB⟩ : ∃ B, wr.heap.size = B := ⟨_, rfl⟩
                    have hB2 : wr.heap.size ≤ B := by omega
                    rw [hB] at g2 g3
                    replace g1 := hB2
                    clear hB2 hB
                    have G1 := Lib.hid g1
                    have G2 := Lib.hid g2
                    have G3 := Lib.hid g3
                    have G4 := Lib.hid g4
                    have c3 := ((HRE.out.same HK.out).same g4).get (j := 3) rfl
                    have cl := ((HRE.out.same HK.out).same g4).lt
                    clear o1 ka g1 g2 g3 g4
                    go_wp2_with (at_builtin; go_loud (refine wpList_app1 el38 rfl (.tmp 75) (.tmp 78) rfl B v1 j ((out.take j).map (Value.int .i64)) rfl G2.out (news := [.int .i64 x.due]) rfl rfl (by simp [Value.oneCell']) (by unfold maxLen; omega) (by omega) G3.out ?_))
                    intro gg c2 wc own2 k2
                    have k3 : Kept (fun b => wr.heap.size ≤ b) wr wc := (G4.out.mono (T := fun b => wr.heap.size ≤ b) (fun _ _ h => h.elim)).trans k2 (fun b hb q => Nat.le_trans G1.out (ownsRow_block G2.out q).1)
                    have HKC : Hid (Kept (fun _ => False) wr wc) := Lib.hid (G4.out.trans k2 (fun b hb q => by have := (ownsRow_block G2.out q).1; have := G1.out; omega))
                    have HD := Lib.hid (HDR.out wc _ k3 (fun _ q => q))
                    have OW : Hid (wc.ownsRow B 2 1 (.slice (some ⟨gg, 0, none⟩) (j + 1) c2) (j + 1) ((out.take j).map (Value.int .i64) ++ [.int .i64 x.due])) := Lib.hid (by simpa [List.map_take] using own2)
                    have HBC : Hid (B ≤ wc.heap.size) := Lib.hid (Nat.le_trans G3.out k2.size)
                    clear own2 k2 k3 c3 cl
                    go_wp2_with (at_builtin; go_loud (refine wpList_appInts el38 rfl (.tmp 80) (.tmp 83) rfl B (.slice (some ⟨gg, 0, none⟩) (j + 1) c2) (.slice (some ⟨g, j, none⟩) (m - j) (cs - j)) (j + 1) ((out.take j).map (Value.int .i64) ++ [.int .i64 x.due]) (out.drop j) rfl rfl OW.out HD.out (by rw [HLD.out]; have := HOL.out; omega) HBC.out ?_))
                    intro v3 wd own3 k4
                    have HFIN : Hid (IRO w1 wd v3 (out.take j ++ x.due :: out.drop j)) := Lib.hid (iro_three (c2 := c2) (g2 := gg) (wb := wr) (HSK.out.move HK.out).2.1 G1.out HJ.out (((HSK.out.move HK.out).2.2.trans HKC.out (fun _ _ h => h)).trans k4 (fun b hb q => by have := (ownsRow_block OW.out q).1; have := G1.out; have := (HSK.out.move HK.out).2.1; omega)) (by first | exact own3 | simpa [List.map_take, List.map_drop] using own3))
                    have HLN : Hid ((out.take j ++ x.due :: out.drop j).length ≤ i + 1) := Lib.hid (by rw [List.length_append, List.length_cons, HLT.out, HLD.out]; have := HOL.out; omega)
                    clear own3 k4
                    go_wp2
                    go_roundw
                    case rel => exact ⟨i + 1, _, by omega, by go_num, HNX.out.symm, HLN.out, HFIN.out⟩
                    case measure => simp; omega
                  · have e : j = m := by omega
                    subst e
                    have e : j = cs := by omega
                    subst e
                    have HNX : Hid (Tr.firstsR job (l.take (i + 1)) = out.take j ++ x.due :: out.drop j) := Lib.hid (by rw [HFS.out, if_pos HYES.out, ← HOUT.out]; exact ins_at HJ.out HALL.out HAFT.out)
                    have HTK : Hid (∀ W, Kept (fun _ => False) wr W → Ints W (.slice (some ⟨g, 0, none⟩) j j) (out.take j)) := Lib.hid fun W KW => Ints.takeI (((HSK.out.move HK.out).ints1).same KW) HJ.out
                    have HDR : Hid (∀ W S, Kept S wr W → (∀ b, S b → wr.heap.size ≤ b) → Ints W (.slice (some ⟨g, 0, none⟩) 0 0) (out.drop j)) := Lib.hid fun W S KW hS => .inl ⟨_, 0, rfl, List.drop_eq_nil_of_le (by have := HM.out; omega)⟩
                    have h32 : j ≤ out.length := HJ.out
                    have HLT : Hid ((out.take j).length = j) := Lib.hid (by rw [List.length_take, Nat.min_eq_left h32])
                    have HLD : Hid ((out.drop j).length = out.length - j) := Lib.hid (by rw [List.length_drop])
                    go_wp2
                    go_quiet (fail)
                    go_wp2
                    go_quiet (fail)
                    go_wp2_with (at_builtin; go_loud (refine wpList_appInts0 el38 rfl (.tmp 70) (.tmp 73) rfl (.slice (some ⟨g, 0, none⟩) j j) (out.take j) rfl rfl (HTK.out _ ((Kept.refl _ _).drewN _)) (by rw [HLT.out]; omega) ?_))
                    intro v1 wa o1 ka
                    have g4 : Kept (fun _ => False) wr wa := (show Kept (fun _ => False) wr _ from ((Kept.refl _ _).drewN _)).trans ka (fun _ _ h => h)
                    have g2 : wa.ownsRow wr.heap.size 2 1 v1 j ((out.take j).map (Value.int .i64)) := by simpa [List.map_take] using o1
                    have g3 := g4.size
                    have g1 : wr.heap.size ≤ wr.heap.size := Nat.le_refl _
                    obtain ⟨B, hB⟩ : ∃ B, wr.heap.size = B := ⟨_, rfl⟩
                    have hB2 : wr.heap.size ≤ B := by omega
                    rw [hB] at g2 g3
                    replace g1 := hB2
                    clear hB2 hB
                    have G1 := Lib.hid g1
                    have G2 := Lib.hid g2
                    have G3 := Lib.hid g3
                    have G4 := Lib.hid g4
                    have c3 := ((HRE.out.same HK.out).same g4).get (j := 3) rfl
                    have cl := ((HRE.out.same HK.out).same g4).lt
                    clear o1 ka g1 g2 g3 g4
                    go_wp2_with (at_builtin; go_loud (refine wpList_app1 el38 rfl (.tmp 75) (.tmp 78) rfl B v1 j ((out.take j).map (Value.int .i64)) rfl G2.out (news := [.int .i64 x.due]) rfl rfl (by simp [Value.oneCell']) (by unfold maxLen; omega) (by omega) G3.out ?_))
                    intro gg c2 wc own2 k2
                    have k3 : Kept (fun b => wr.heap.size ≤ b) wr wc := (G4.out.mono (T := fun b => wr.heap.size ≤ b) (fun _ _ h => h.elim)).trans k2 (fun b hb q => Nat.le_trans G1.out (ownsRow_block G2.out q).1)
                    have HKC : Hid (Kept (fun _ => False) wr wc) := Lib.hid (G4.out.trans k2 (fun b hb q => by have := (ownsRow_block G2.out q).1; have := G1.out; omega))
                    have HD := Lib.hid (HDR.out wc _ k3 (fun _ q => q))
                    have OW : Hid (wc.ownsRow B 2 1 (.slice (some ⟨gg, 0, none⟩) (j + 1) c2) (j + 1) ((out.take j).map (Value.int .i64) ++ [.int .i64 x.due])) := Lib.hid (by simpa [List.map_take] using own2)
                    have HBC : Hid (B ≤ wc.heap.size) := Lib.hid (Nat.le_trans G3.out k2.size)
                    clear own2 k2 k3 c3 cl
                    have hdn : out.drop j = [] := List.drop_eq_nil_of_le (by have := HM.out; omega)
                    have HFIN : Hid (IRO w1 wc (.slice (some ⟨gg, 0, none⟩) (j + 1) c2) (out.take j ++ x.due :: out.drop j)) := Lib.hid (iro_three (c2 := c2) (g2 := gg) (wb := wr) (HSK.out.move HK.out).2.1 G1.out HJ.out ((HSK.out.move HK.out).2.2.trans HKC.out (fun _ _ h => h)) (by rw [hdn]; simpa [List.map_take] using OW.out))
                    clear hdn
                    have hc2 : j + 1 ≤ c2 := ownsRow_cap OW.out
                    have hc3 : (j : Int) + 1 ≤ (c2 : Int) := by omega
                    have HLN : Hid ((out.take j ++ x.due :: out.drop j).length ≤ i + 1) := Lib.hid (by rw [List.length_append, List.length_cons, HLT.out, HLD.out]; have := HOL.out; omega)
                    go_wp2
                    go_roundw
                    case rel => exact ⟨i + 1, _, by omega, by go_num, HNX.out.symm, HLN.out, HFIN.out⟩
                    case measure => simp; omega
          · by_cases k5 : x.kind = 5
            · have t1 : (x.kind != 1) = true := by simpa using k1
              have t5 : (x.kind != 5) = false := by simpa using k5
              have HYES : Hid (Tr.firstB job x = true) := Lib.hid (by simp [Tr.firstB, k5, kj])
              have tj : (x.job != job) = false := by simpa using kj
              clear HNO
              clear kj
              try clear k1
              try clear k5
              obtain ⟨wo, hwo⟩ : ∃ wo : World, wo = wr := ⟨_, rfl⟩
              subst hwo
              go_wp2
              go_loopw [10] (fun q wr => ∃ j : Nat, j ≤ out.length ∧ q = .int .i64 j ∧ (∀ a ∈ out.take j, a < x.due) ∧ Kept (fun _ => False) (wo.alloc (.cells #[.int .i64 x.kind, .int .i64 x.t, .int .i64 x.job, .int .i64 x.due, .int .i64 x.att, .int .i64 x.run, .int .i64 x.why, .int .i64 x.whn] 35)) wr) (fun q _ => match q with | .int _ z => (out.length - z).toNat | _ => 0)
              case atStart => exact ⟨0, Nat.zero_le _, rfl, by simp, Kept.refl _ _⟩
              case round =>
                obtain ⟨j, hj2, rfl, hall, K⟩ := hrel
                have HJ := Lib.hid hj2
                have HOL := Lib.hid hol
                have HALL := Lib.hid hall
                have HK := Lib.hid K
                clear hall K
                have j1 : (0 : Int) ≤ (j : Int) := by omega
                have c3 := (HRE.out.same HK.out).get (j := 3) rfl
                have cl := (HRE.out.same HK.out).lt
                rcases HSK.out.shape with ⟨hv, rfl⟩ | ⟨g, cc, hv, hcc, -, hgb⟩
                · injection hv with e1 e2 e3
                  subst e1 e3
                  obtain rfl : j = 0 := by simpa using hj2
                  have HAFT : Hid (∀ a, ([] : List Int)[0]? = some a → x.due < a) := Lib.hid (by simp)
                  have HNX : Hid (Tr.firstsR job (l.take (i + 1)) = ([] : List Int).take 0 ++ x.due :: ([] : List Int).drop 0) := Lib.hid (by rw [HFS.out, if_pos HYES.out, ← HOUT.out]; exact ins_at (Nat.le_refl 0) HALL.out HAFT.out)
                  have HTK : Hid (∀ W, Kept (fun _ => False) wr W → Ints W (.slice none 0 0) (([] : List Int).take 0)) := Lib.hid fun W KW => Ints.takeI (k := 0) (((HSK.out.move HK.out).ints1).same KW) (Nat.le_refl 0)
                  have HDR : Hid (∀ W S, Kept S wr W → (∀ b, S b → wr.heap.size ≤ b) → Ints W (.slice none 0 0) (([] : List Int).drop 0)) := Lib.hid fun W S KW hS => .inl ⟨none, 0, rfl, by simp⟩
                  have h32 : 0 ≤ ([] : List Int).length := (Nat.le_refl 0)
                  have HLT : Hid ((([] : List Int).take 0).length = 0) := Lib.hid (by rw [List.length_take, Nat.min_eq_left h32])
                  have HLD : Hid ((([] : List Int).drop 0).length = ([] : List Int).length - 0) := Lib.hid (by rw [List.length_drop])
                  go_wp2
                  go_quiet (fail)
                  go_wp2
                  go_quiet (fail)
                  go_wp2_with (at_builtin; go_loud (refine wpList_appInts0 el38 rfl (.tmp 70) (.tmp 73) rfl (.slice none 0 0) (([] : List Int).take 0) rfl rfl (HTK.out _ ((Kept.refl _ _).drewN _)) (by rw [HLT.out]; omega) ?_))
                  intro v1 wa o1 ka
                  have g4 : Kept (fun _ => False) wr wa := (show Kept (fun _ => False) wr _ from ((Kept.refl _ _).drewN _)).trans ka (fun _ _ h => h)
                  have g2 : wa.ownsRow wr.heap.size 2 1 v1 0 ((([] : List Int).take 0).map (Value.int .i64)) := by simpa [List.map_take] using o1
                  have g3 := g4.size
                  have g1 : wr.heap.size ≤ wr.heap.size := Nat.le_refl _
                  obtain ⟨B, hB⟩ : ∃ B, wr.heap.size = B := ⟨_, rfl⟩
                  have hB2 : wr.heap.size ≤ B := by omega
                  rw [hB] at g2 g3
                  replace g1 := hB2
                  clear hB2 hB
                  have G1 := Lib.hid g1
                  have G2 := Lib.hid g2
                  have G3 := Lib.hid g3
                  have G4 := Lib.hid g4
                  have c3 := ((HRE.out.same HK.out).same g4).get (j := 3) rfl
                  have cl := ((HRE.out.same HK.out).same g4).lt
                  clear o1 ka g1 g2 g3 g4
                  go_wp2_with (at_builtin; go_loud (refine wpList_app1 el38 rfl (.tmp 75) (.tmp 78) rfl B v1 0 ((([] : List Int).take 0).map (Value.int .i64)) rfl G2.out (news := [.int .i64 x.due]) rfl rfl (by simp [Value.oneCell']) (by unfold maxLen; omega) (by omega) G3.out ?_))
                  intro gg c2 wc own2 k2
                  have k3 : Kept (fun b => wr.heap.size ≤ b) wr wc := (G4.out.mono (T := fun b => wr.heap.size ≤ b) (fun _ _ h => h.elim)).trans k2 (fun b hb q => Nat.le_trans G1.out (ownsRow_block G2.out q).1)
                  have HKC : Hid (Kept (fun _ => False) wr wc) := Lib.hid (G4.out.trans k2 (fun b hb q => by have := (ownsRow_block G2.out q).1; have := G1.out; omega))
                  have HD := Lib.hid (HDR.out wc _ k3 (fun _ q => q))
                  have OW : Hid (wc.ownsRow B 2 1 (.slice (some ⟨gg, 0, none⟩) (0 + 1) c2) (0 + 1) ((([] : List Int).take 0).map (Value.int .i64) ++ [.int .i64 x.due])) := Lib.hid (by simpa [List.map_take] using own2)
                  have HBC : Hid (B ≤ wc.heap.size) := Lib.hid (Nat.le_trans G3.out k2.size)
                  clear own2 k2 k3 c3 cl
                  go_wp2_with (at_builtin; go_loud (refine wpList_appInts el38 rfl (.tmp 80) (.tmp 83) rfl B (.slice (some ⟨gg, 0, none⟩) (0 + 1) c2) (.slice none 0 0) (0 + 1) ((([] : List Int).take 0).map (Value.int .i64) ++ [.int .i64 x.due]) (([] : List Int).drop 0) rfl rfl OW.out HD.out (by rw [HLD.out]; have := HOL.out; omega) HBC.out ?_))
                  intro v3 wd own3 k4
                  have HFIN : Hid (IRO w1 wd v3 (([] : List Int).take 0 ++ x.due :: ([] : List Int).drop 0)) := Lib.hid (iro_three (c2 := c2) (g2 := gg) (wb := wr) (HSK.out.move HK.out).2.1 G1.out (Nat.le_refl 0) (((HSK.out.move HK.out).2.2.trans HKC.out (fun _ _ h => h)).trans k4 (fun b hb q => by have := (ownsRow_block OW.out q).1; have := G1.out; have := (HSK.out.move HK.out).2.1; omega)) (by first | exact own3 | simpa [List.map_take, List.map_drop] using own3))
                  have HLN : Hid ((([] : List Int).take 0 ++ x.due :: ([] : List Int).drop 0).length ≤ i + 1) := Lib.hid (by rw [List.length_append, List.length_cons, HLT.out, HLD.out]; have := HOL.out; omega)
                  clear own3 k4
                  go_wp2
                  go_roundw
                  case rel => exact ⟨i + 1, _, by omega, by go_num, HNX.out.symm, HLN.out, HFIN.out⟩
                  case measure => simp; omega
                · injection hv with e1 e2 e3
                  subst e1 e3
                  obtain ⟨m, hm⟩ : ∃ m, out.length = m := ⟨_, rfl⟩
                  have HM := Lib.hid hm
                  have HGB := Lib.hid hgb
                  have HO := ((HSK.out.move HK.out).ints1)
                  rw [hm] at hol hj2 hcc HO ⊢
                  have j2 : (j : Int) ≤ m := by omega
                  have j3 : (j : Int) ≤ cs := by omega
                  clear hm hgb
                  by_cases hlt2 : j < m
                  · obtain ⟨y, hy⟩ : ∃ y, out[j]? = some y := ⟨_, List.getElem?_eq_getElem (by have := HM.out; omega)⟩
                    have HY := Lib.hid hy
                    have j4 : (j : Int) < m := by omega
                    have cj : wr.cell? ⟨g, j, none⟩ = some (.int .i64 y) := by
                      rcases HO with ⟨b, cap, q, q2⟩ | ⟨b, off, cap, q, hb, hc⟩
                      · rw [q2] at hy; simp at hy
                      · injection q with q1
                        injection q1 with q1
                        injection q1 with q1 q3
                        subst q1
                        have := hc j y hy
                        rwa [← q3, Nat.zero_add] at this
                    clear hy HO
                    by_cases hyd : y < x.due
                    · have HN2 : Hid (∀ a ∈ out.take (j + 1), a < x.due) := Lib.hid (by
                        rw [List.take_add_one, HY.out]
                        intro a ha
                        rcases List.mem_append.1 ha with ha | ha
                        · exact HALL.out a ha
                        · simp at ha; subst ha; exact hyd)
                      go_wp2
                      go_quiet (fail)
                      go_wp2
                      go_roundw
                      case rel => exact ⟨j + 1, by have := HM.out; omega, by go_num, HN2.out, HK.out.drewN _⟩
                      case measure => simp; have := HM.out; omega
                    · by_cases hye : y = x.due
                      · have HNX : Hid (out = Tr.firstsR job (l.take (i + 1))) := Lib.hid (by rw [HFS.out, if_pos HYES.out, ← HOUT.out]; exact (ins_same HALL.out (hye ▸ HY.out)).symm)
                        have hyb : (y == x.due) = true := by simpa using hye
                        have HYE := Lib.hid hye
                        clear hye
                        have HSM := Lib.hid (HSK.out.move HK.out)
                        rw [HM.out] at HSM
                        go_wp2
                        go_quiet (fail)
                        go_wp2
                        go_quiet (fail)
                        go_wp2
                        go_roundw
                        case rel => exact ⟨i + 1, out, by omega, by go_num, HNX.out, by have := HM.out; omega, HSM.out.move ((Kept.refl _ _).drewN _)⟩
                        case measure => simp; omega
                      · have hyb : (y == x.due) = false := by simpa using hye
                        have HAFT : Hid (∀ a, out[j]? = some a → x.due < a) := Lib.hid (fun a ha => by rw [HY.out] at ha; injection ha with ha; omega)
                        have HNX : Hid (Tr.firstsR job (l.take (i + 1)) = out.take j ++ x.due :: out.drop j) := Lib.hid (by rw [HFS.out, if_pos HYES.out, ← HOUT.out]; exact ins_at HJ.out HALL.out HAFT.out)
                        have HTK : Hid (∀ W, Kept (fun _ => False) wr W → Ints W (.slice (some ⟨g, 0, none⟩) j cs) (out.take j)) := Lib.hid fun W KW => Ints.takeI (((HSK.out.move HK.out).ints1).same KW) HJ.out
                        have HDR : Hid (∀ W S, Kept S wr W → (∀ b, S b → wr.heap.size ≤ b) → Ints W (.slice (some ⟨g, j, none⟩) (m - j) (cs - j)) (out.drop j)) := Lib.hid fun W S KW hS => by
                            have h1 := Ints.dropI (k := j) (((HSK.out.move HK.out).ints1).kept KW (fun b hb hp q => by
                              simp only [Value.ownBlock, Option.some.injEq] at hb
                              have := hS b q
                              have := HGB.out
                              have := HK.out.size
                              omega)) (by have := HGB.out; have := HK.out.size; have := KW.size; omega) HJ.out
                            rw [HM.out, Nat.zero_add] at h1
                            exact h1
                        have h32 : j ≤ out.length := HJ.out
                        have HLT : Hid ((out.take j).length = j) := Lib.hid (by rw [List.length_take, Nat.min_eq_left h32])
                        have HLD : Hid ((out.drop j).length = out.length - j) := Lib.hid (by rw [List.length_drop])
                        go_wp2
                        go_quiet (fail)
                        go_wp2
                        go_quiet (fail)
                        clear cj
                        go_wp2_with (at_builtin; go_loud (refine wpList_appInts0 el38 rfl (.tmp 70) (.tmp 73) rfl (.slice (some ⟨g, 0, none⟩) j cs) (out.take j) rfl rfl (HTK.out _ ((Kept.refl _ _).drewN _)) (by rw [HLT.out]; omega) ?_))
                        intro v1 wa o1 ka
                        have g4 : Kept (fun _ => False) wr wa := (show Kept (fun _ => False) wr _ from ((Kept.refl _ _).drewN _)).trans ka (fun _ _ h => h)
                        have g2 : wa.ownsRow wr.heap.size 2 1 v1 j ((out.take j).map (Value.int .i64)) := by simpa [List.map_take] using o1
                        have g3 := g4.size
                        have g1 : wr.heap.size ≤ wr.heap.size := Nat.le_refl _
                        obtain ⟨B, hB⟩ : ∃ B, wr.heap.size = B := ⟨_, rfl⟩
                        have hB2 : wr.heap.size ≤ B := by omega
                        rw [hB] at g2 g3
                        replace g1 := hB2
                        clear hB2 hB
                        have G1 := Lib.hid g1
                        have G2 := Lib.hid g2
                        have G3 := Lib.hid g3
                        have G4 := Lib.hid g4
                        have c3 := ((HRE.out.same HK.out).same g4).get (j := 3) rfl
                        have cl := ((HRE.out.same HK.out).same g4).lt
                        clear o1 ka g1 g2 g3 g4
                        go_wp2_with (at_builtin; go_loud (refine wpList_app1 el38 rfl (.tmp 75) (.tmp 78) rfl B v1 j ((out.take j).map (Value.int .i64)) rfl G2.out (news := [.int .i64 x.due]) rfl rfl (by simp [Value.oneCell']) (by unfold maxLen; omega) (by omega) G3.out ?_))
                        intro gg c2 wc own2 k2
                        have k3 : Kept (fun b => wr.heap.size ≤ b) wr wc := (G4.out.mono (T := fun b => wr.heap.size ≤ b) (fun _ _ h => h.elim)).trans k2 (fun b hb q => Nat.le_trans G1.out (ownsRow_block G2.out q).1)
                        have HKC : Hid (Kept (fun _ => False) wr wc) := Lib.hid (G4.out.trans k2 (fun b hb q => by have := (ownsRow_block G2.out q).1; have := G1.out; omega))
                        have HD := Lib.hid (HDR.out wc _ k3 (fun _ q => q))
                        have OW : Hid (wc.ownsRow B 2 1 (.slice (some ⟨gg, 0, none⟩) (j + 1) c2) (j + 1) ((out.take j).map (Value.int .i64) ++ [.int .i64 x.due])) := Lib.hid (by simpa [List.map_take] using own2)
                        have HBC : Hid (B ≤ wc.heap.size) := Lib.hid (Nat.le_trans G3.out k2.size)
                        clear own2 k2 k3 c3 cl
                        go_wp2_with (at_builtin; go_loud (refine wpList_appInts el38 rfl (.tmp 80) (.tmp 83) rfl B (.slice (some ⟨gg, 0, none⟩) (j + 1) c2) (.slice (some ⟨g, j, none⟩) (m - j) (cs - j)) (j + 1) ((out.take j).map (Value.int .i64) ++ [.int .i64 x.due]) (out.drop j) rfl rfl OW.out HD.out (by rw [HLD.out]; have := HOL.out; omega) HBC.out ?_))
                        intro v3 wd own3 k4
                        have HFIN : Hid (IRO w1 wd v3 (out.take j ++ x.due :: out.drop j)) := Lib.hid (iro_three (c2 := c2) (g2 := gg) (wb := wr) (HSK.out.move HK.out).2.1 G1.out HJ.out (((HSK.out.move HK.out).2.2.trans HKC.out (fun _ _ h => h)).trans k4 (fun b hb q => by have := (ownsRow_block OW.out q).1; have := G1.out; have := (HSK.out.move HK.out).2.1; omega)) (by first | exact own3 | simpa [List.map_take, List.map_drop] using own3))
                        have HLN : Hid ((out.take j ++ x.due :: out.drop j).length ≤ i + 1) := Lib.hid (by rw [List.length_append, List.length_cons, HLT.out, HLD.out]; have := HOL.out; omega)
                        clear own3 k4
                        go_wp2
                        go_roundw
                        case rel => exact ⟨i + 1, _, by omega, by go_num, HNX.out.symm, HLN.out, HFIN.out⟩
                        case measure => simp; omega
                  · have HAFT : Hid (∀ a, out[j]? = some a → x.due < a) := Lib.hid (fun a ha => by
                      rw [List.getElem?_eq_none (by have := HM.out; omega)] at ha
                      cases ha)
                    clear HO
                    by_cases hjc : j < cs
                    · have j4 : (j : Int) < cs := by omega
                      have HJM : Hid (j = m) := Lib.hid (by omega)
                      have HNX : Hid (Tr.firstsR job (l.take (i + 1)) = out.take j ++ x.due :: out.drop j) := Lib.hid (by rw [HFS.out, if_pos HYES.out, ← HOUT.out]; exact ins_at HJ.out HALL.out HAFT.out)
                      have HTK : Hid (∀ W, Kept (fun _ => False) wr W → Ints W (.slice (some ⟨g, 0, none⟩) j cs) (out.take j)) := Lib.hid fun W KW => Ints.takeI (((HSK.out.move HK.out).ints1).same KW) HJ.out
                      have HDR : Hid (∀ W S, Kept S wr W → (∀ b, S b → wr.heap.size ≤ b) → Ints W (.slice (some ⟨g, j, none⟩) (m - j) (cs - j)) (out.drop j)) := Lib.hid fun W S KW hS => by
                          have h1 := Ints.dropI (k := j) (((HSK.out.move HK.out).ints1).kept KW (fun b hb hp q => by
                            simp only [Value.ownBlock, Option.some.injEq] at hb
                            have := hS b q
                            have := HGB.out
                            have := HK.out.size
                            omega)) (by have := HGB.out; have := HK.out.size; have := KW.size; omega) HJ.out
                          rw [HM.out, Nat.zero_add] at h1
                          exact h1
                      have h32 : j ≤ out.length := HJ.out
                      have HLT : Hid ((out.take j).length = j) := Lib.hid (by rw [List.length_take, Nat.min_eq_left h32])
                      have HLD : Hid ((out.drop j).length = out.length - j) := Lib.hid (by rw [List.length_drop])
                      go_wp2
                      go_quiet (fail)
                      go_wp2
                      go_quiet (fail)
                      go_wp2_with (at_builtin; go_loud (refine wpList_appInts0 el38 rfl (.tmp 70) (.tmp 73) rfl (.slice (some ⟨g, 0, none⟩) j cs) (out.take j) rfl rfl (HTK.out _ ((Kept.refl _ _).drewN _)) (by rw [HLT.out]; omega) ?_))
                      intro v1 wa o1 ka
                      have g4 : Kept (fun _ => False) wr wa := (show Kept (fun _ => False) wr _ from ((Kept.refl _ _).drewN _)).trans ka (fun _ _ h => h)
                      have g2 : wa.ownsRow wr.heap.size 2 1 v1 j ((out.take j).map (Value.int .i64)) := by simpa [List.map_take] using o1
                      have g3 := g4.size
                      have g1 : wr.heap.size ≤ wr.heap.size := Nat.le_refl _
                      obtain ⟨B, hB⟩ : ∃ B, wr.heap.size = B := ⟨_, rfl⟩
                      have hB2 : wr.heap.size ≤ B := by omega
                      rw [hB] at g2 g3
                      replace g1 := hB2
                      clear hB2 hB
                      have G1 := Lib.hid g1
                      have G2 := Lib.hid g2
                      have G3 := Lib.hid g3
                      have G4 := Lib.hid g4
                      have c3 := ((HRE.out.same HK.out).same g4).get (j := 3) rfl
                      have cl := ((HRE.out.same HK.out).same g4).lt
                      clear o1 ka g1 g2 g3 g4
                      go_wp2_with (at_builtin; go_loud (refine wpList_app1 el38 rfl (.tmp 75) (.tmp 78) rfl B v1 j ((out.take j).map (Value.int .i64)) rfl G2.out (news := [.int .i64 x.due]) rfl rfl (by simp [Value.oneCell']) (by unfold maxLen; omega) (by omega) G3.out ?_))
                      intro gg c2 wc own2 k2
                      have k3 : Kept (fun b => wr.heap.size ≤ b) wr wc := (G4.out.mono (T := fun b => wr.heap.size ≤ b) (fun _ _ h => h.elim)).trans k2 (fun b hb q => Nat.le_trans G1.out (ownsRow_block G2.out q).1)
                      have HKC : Hid (Kept (fun _ => False) wr wc) := Lib.hid (G4.out.trans k2 (fun b hb q => by have := (ownsRow_block G2.out q).1; have := G1.out; omega))
                      have HD := Lib.hid (HDR.out wc _ k3 (fun _ q => q))
                      have OW : Hid (wc.ownsRow B 2 1 (.slice (some ⟨gg, 0, none⟩) (j + 1) c2) (j + 1) ((out.take j).map (Value.int .i64) ++ [.int .i64 x.due])) := Lib.hid (by simpa [List.map_take] using own2)
                      have HBC : Hid (B ≤ wc.heap.size) := Lib.hid (Nat.le_trans G3.out k2.size)
                      clear own2 k2 k3 c3 cl
                      go_wp2_with (at_builtin; go_loud (refine wpList_appInts el38 rfl (.tmp 80) (.tmp 83) rfl B (.slice (some ⟨gg, 0, none⟩) (j + 1) c2) (.slice (some ⟨g, j, none⟩) (m - j) (cs - j)) (j + 1) ((out.take j).map (Value.int .i64) ++ [.int .i64 x.due]) (out.drop j) rfl rfl OW.out HD.out (by rw [HLD.out]; have := HOL.out; omega) HBC.out ?_))
                      intro v3 wd own3 k4
                      have HFIN : Hid (IRO w1 wd v3 (out.take j ++ x.due :: out.drop j)) := Lib.hid (iro_three (c2 := c2) (g2 := gg) (wb := wr) (HSK.out.move HK.out).2.1 G1.out HJ.out (((HSK.out.move HK.out).2.2.trans HKC.out (fun _ _ h => h)).trans k4 (fun b hb q => by have := (ownsRow_block OW.out q).1; have := G1.out; have := (HSK.out.move HK.out).2.1; omega)) (by first | exact own3 | simpa [List.map_take, List.map_drop] using own3))
                      have HLN : Hid ((out.take j ++ x.due :: out.drop j).length ≤ i + 1) := Lib.hid (by rw [List.length_append, List.length_cons, HLT.out, HLD.out]; have := HOL.out; omega)
                      clear own3 k4
                      go_wp2
                      go_roundw
                      case rel => exact ⟨i + 1, _, by omega, by go_num, HNX.out.symm, HLN.out, HFIN.out⟩
                      case measure => simp; omega
                    · have e : j = m := by omega
                      subst e
                      have e : j = cs := by omega
                      subst e
                      have HNX : Hid (Tr.firstsR job (l.take (i + 1)) = out.take j ++ x.due :: out.drop j) := Lib.hid (by rw [HFS.out, if_pos HYES.out, ← HOUT.out]; exact ins_at HJ.out HALL.out HAFT.out)
                      have HTK : Hid (∀ W, Kept (fun _ => False) wr W → Ints W (.slice (some ⟨g, 0, none⟩) j j) (out.take j)) := Lib.hid fun W KW => Ints.takeI (((HSK.out.move HK.out).ints1).same KW) HJ.out
                      have HDR : Hid (∀ W S, Kept S wr W → (∀ b, S b → wr.heap.size ≤ b) → Ints W (.slice (some ⟨g, 0, none⟩) 0 0) (out.drop j)) := Lib.hid fun W S KW hS => .inl ⟨_, 0, rfl, List.drop_eq_nil_of_le (by have := HM.out; omega)⟩
                      have h32 : j ≤ out.length := HJ.out
                      have HLT : Hid ((out.take j).length = j) := Lib.hid (by rw [List.length_take, Nat.min_eq_left h32])
                      have HLD : Hid ((out.drop j).length = out.length - j) := Lib.hid (by rw [List.length_drop])
                      go_wp2
                      go_quiet (fail)
                      go_wp2
                      go_quiet (fail)
                      go_wp2_with (at_builtin; go_loud (refine wpList_appInts0 el38 rfl (.tmp 70) (.tmp 73) rfl (.slice (some ⟨g, 0, none⟩) j j) (out.take j) rfl rfl (HTK.out _ ((Kept.refl _ _).drewN _)) (by rw [HLT.out]; omega) ?_))
                      intro v1 wa o1 ka
                      have g4 : Kept (fun _ => False) wr wa := (show Kept (fun _ => False) wr _ from ((Kept.refl _ _).drewN _)).trans ka (fun _ _ h => h)
                      have g2 : wa.ownsRow wr.heap.size 2 1 v1 j ((out.take j).map (Value.int .i64)) := by simpa [List.map_take] using o1
                      have g3 := g4.size
                      have g1 : wr.heap.size ≤ wr.heap.size := Nat.le_refl _
                      obtain ⟨B, hB⟩ : ∃ B, wr.heap.size = B := ⟨_, rfl⟩
                      have hB2 : wr.heap.size ≤ B := by omega
                      rw [hB] at g2 g3
                      replace g1 := hB2
                      clear hB2 hB
                      have G1 := Lib.hid g1
                      have G2 := Lib.hid g2
                      have G3 := Lib.hid g3
                      have G4 := Lib.hid g4
                      have c3 := ((HRE.out.same HK.out).same g4).get (j := 3) rfl
                      have cl := ((HRE.out.same HK.out).same g4).lt
                      clear o1 ka g1 g2 g3 g4
                      go_wp2_with (at_builtin; go_loud (refine wpList_app1 el38 rfl (.tmp 75) (.tmp 78) rfl B v1 j ((out.take j).map (Value.int .i64)) rfl G2.out (news := [.int .i64 x.due]) rfl rfl (by simp [Value.oneCell']) (by unfold maxLen; omega) (by omega) G3.out ?_))
                      intro gg c2 wc own2 k2
                      have k3 : Kept (fun b => wr.heap.size ≤ b) wr wc := (G4.out.mono (T := fun b => wr.heap.size ≤ b) (fun _ _ h => h.elim)).trans k2 (fun b hb q => Nat.le_trans G1.out (ownsRow_block G2.out q).1)
                      have HKC : Hid (Kept (fun _ => False) wr wc) := Lib.hid (G4.out.trans k2 (fun b hb q => by have := (ownsRow_block G2.out q).1; have := G1.out; omega))
                      have HD := Lib.hid (HDR.out wc _ k3 (fun _ q => q))
                      have OW : Hid (wc.ownsRow B 2 1 (.slice (some ⟨gg, 0, none⟩) (j + 1) c2) (j + 1) ((out.take j).map (Value.int .i64) ++ [.int .i64 x.due])) := Lib.hid (by simpa [List.map_take] using own2)
                      have HBC : Hid (B ≤ wc.heap.size) := Lib.hid (Nat.le_trans G3.out k2.size)
                      clear own2 k2 k3 c3 cl
                      have hdn : out.drop j = [] := List.drop_eq_nil_of_le (by have := HM.out; omega)
                      have HFIN : Hid (IRO w1 wc (.slice (some ⟨gg, 0, none⟩) (j + 1) c2) (out.take j ++ x.due :: out.drop j)) := Lib.hid (iro_three (c2 := c2) (g2 := gg) (wb := wr) (HSK.out.move HK.out).2.1 G1.out HJ.out ((HSK.out.move HK.out).2.2.trans HKC.out (fun _ _ h => h)) (by rw [hdn]; simpa [List.map_take] using OW.out))
                      clear hdn
                      have hc2 : j + 1 ≤ c2 := ownsRow_cap OW.out
                      have hc3 : (j : Int) + 1 ≤ (c2 : Int) := by omega
                      have HLN : Hid ((out.take j ++ x.due :: out.drop j).length ≤ i + 1) := Lib.hid (by rw [List.length_append, List.length_cons, HLT.out, HLD.out]; have := HOL.out; omega)
                      go_wp2
                      go_roundw
                      case rel => exact ⟨i + 1, _, by omega, by go_num, HNX.out.symm, HLN.out, HFIN.out⟩
                      case measure => simp; omega
            · have t1 : (x.kind != 1) = true := by simpa using k1
              have t5 : (x.kind != 5) = true := by simpa using k5
              have HNX := Lib.hid (HNO.out (by simp [Tr.firstB, k1, k5]))
              clear HNO
              clear kj
              try clear k1
              try clear k5
              go_wp2
              go_roundw
              case rel => exact ⟨i + 1, out, by omega, by go_num, HNX.out, by omega, HSK.out⟩
              case measure => simp; omega
        · have tj : (x.job != job) = true := by simpa using kj
          by_cases k1 : x.kind = 1
          · have t1 : (x.kind != 1) = false := by simpa using k1
            have HNX := Lib.hid (HNO.out (by simp [Tr.firstB, kj]))
            clear HNO
            clear kj
            try clear k1
            try clear k5
            go_wp2
            go_roundw
            case rel => exact ⟨i + 1, out, by omega, by go_num, HNX.out, by omega, HSK.out⟩
            case measure => simp; omega
          · have t1 : (x.kind != 1) = true := by simpa using k1
            by_cases k5 : x.kind = 5
            · have t5 : (x.kind != 5) = false := by simpa using k5
              have HNX := Lib.hid (HNO.out (by simp [Tr.firstB, kj]))
              clear HNO
              clear kj
              try clear k1
              try clear k5
              go_wp2
              go_roundw
              case rel => exact ⟨i + 1, out, by omega, by go_num, HNX.out, by omega, HSK.out⟩
              case measure => simp; omega
            · have t5 : (x.kind != 5) = true := by simpa using k5
              have HNX := Lib.hid (HNO.out (by simp [Tr.firstB, kj]))
              clear HNO
              clear kj
              try clear k1
              try clear k5
              go_wp2
              go_roundw
              case rel => exact ⟨i + 1, out, by omega, by go_num, HNX.out, by omega, HSK.out⟩
              case measure => simp; omega
      · obtain rfl : i = N := by omega
        have HFF : Hid (LaunPost w 0 (Tr.firstsR job l) (.returned (.tuple #[.slice ps out.length cs, .int .i64 0])) wr) := Lib.hid ⟨_, rfl, by
          have h1 := HOUT.out
          rw [List.take_of_length_le (by have := HN.out; omega)] at h1
          rw [if_pos rfl, ← h1]
          exact HS.out.base HK1.out⟩
        go_wp2
        go_ret2
        exact HFF.out
end Go.Proofs.Ytfhlllmicobafaa
