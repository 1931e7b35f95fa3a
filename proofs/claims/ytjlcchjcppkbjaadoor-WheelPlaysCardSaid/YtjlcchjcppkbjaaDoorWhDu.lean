/- WhDu: texts for the statements of this seat: contracts of functions, walks, plain laws. Conditions: none. -/
import Derived.Deep.RegionHeld3
import Derived.Test.YtjlcchjcppkbjaaDoorWhLaw0
import Derived.Test.YtjlcchjcppkbjaaDoorGeStepR
import Derived.Test.YtjlcchjcppkbjaaDoorWhSt
import Derived.Test.YtjlcchjcppkbjaaDoorWhRo
import Derived.Test.YtjlcchjcppkbjaaDoorGeAll
set_option linter.all false
/- Plain laws of an account of timers in the order in which they were added. -/
namespace Go.Proofs.YtjlcchjcppkbjaaDoor
open Go.RowKit
theorem due_app {lim : Int} {D E : List Tm} (hD : ∀ x ∈ D, x.at_ ≤ lim) (hE : ∀ x ∈ E, lim < x.at_) : due lim (D ++ E) = D ∧ rest lim (D ++ E) = E := by
  induction D with
  | nil => exact due_none_all hE
  | cons x D ih =>
    have hx : decide (x.at_ ≤ lim) = true := by simpa using hD x (by simp)
    obtain ⟨i1, i2⟩ := ih fun y hy => hD y (by simp [hy])
    unfold due rest at *
    rw [List.cons_append, List.takeWhile_cons, List.dropWhile_cons, if_pos hx, if_pos hx, i1, i2]
    exact ⟨rfl, rfl⟩
/-- Which numbers come first. -/
def Tm.sq (x y : Tm) : Prop := x.seq < y.seq
theorem seq_eq {l m : List Tm} (hl : l.Pairwise Tm.sq) (hm : m.Pairwise Tm.sq) (hp : l.Perm m) : l = m := by
  induction l generalizing m with
  | nil => exact (List.Perm.nil_eq hp)
  | cons x l ih =>
    cases m with
    | nil => exact absurd hp.symm (by simp)
    | cons y m =>
      rw [List.pairwise_cons] at hl hm
      have hxy : x = y := by
        have h1 : x ∈ y :: m := hp.mem_iff.1 (by simp)
        have h2 : y ∈ x :: l := hp.mem_iff.2 (by simp)
        rcases List.mem_cons.1 h1 with q | q
        · exact q
        · rcases List.mem_cons.1 h2 with r | r
          · exact r.symm
          · have a1 := hm.1 x q
            have a2 := hl.1 y r
            unfold Tm.sq at a1 a2
            omega
      subst hxy
      rw [ih hl.2 hm.2 (List.Perm.cons_inv hp)]
/-- The first of the earliest is the head of the list in order. -/
theorem best_head {E L : List Tm} {lim : Int} (hs : E.Pairwise Tm.lt) (hp : E.Perm L) (hq : L.Pairwise Tm.sq) {b : Nat} {z : Tm} (hz : L[b]? = some z) (hzt : z.at_ ≤ lim) (hb : ∀ (k : Nat) (t : Tm), L[k]? = some t → t.at_ ≤ lim → z.at_ ≤ t.at_ ∧ (t.at_ = z.at_ → b ≤ k)) :
    ∃ E', E = z :: E' ∧ E'.Perm (L.take b ++ L.drop (b + 1)) := by
  have hzL : z ∈ L := List.mem_of_getElem? hz
  have hsplit : L = L.take b ++ z :: L.drop (b + 1) := by
    have hlt := (List.getElem?_eq_some_iff.1 hz).1
    have := (List.getElem?_eq_some_iff.1 hz).2
    rw [← this, ← List.drop_eq_getElem_cons hlt, List.take_append_drop]
  cases E with
  | nil => exact absurd (hp.symm.mem_iff.1 hzL) (by simp)
  | cons y E =>
    have hyz : y = z := by
      rw [List.pairwise_cons] at hs
      have h1 : z ∈ y :: E := hp.mem_iff.2 hzL
      rcases List.mem_cons.1 h1 with q | q
      · exact q.symm
      · have hlt := hs.1 z q
        have hy : y ∈ L := hp.mem_iff.1 (by simp)
        obtain ⟨k, hk⟩ := List.getElem?_of_mem hy
        have hyt : y.at_ ≤ lim := by unfold Tm.lt at hlt; omega
        obtain ⟨a1, a2⟩ := hb k y hk hyt
        unfold Tm.lt at hlt
        have he : y.at_ = z.at_ := by omega
        have hbk := a2 he
        by_cases hne : b = k
        · subst hne
          rw [hz] at hk
          injection hk with hk
          exact hk.symm
        · obtain ⟨p1, p2⟩ := List.getElem?_eq_some_iff.1 hz
          obtain ⟨q1, q2⟩ := List.getElem?_eq_some_iff.1 hk
          have h3 := List.pairwise_iff_getElem.1 hq b k p1 q1 (by omega)
          rw [p2, q2] at h3
          unfold Tm.sq at h3
          omega
    subst hyz
    refine ⟨E, rfl, ?_⟩
    have h2 : (y :: E).Perm (y :: (L.take b ++ L.drop (b + 1))) := (hp.trans (by rw [← hsplit])).trans (List.perm_middle)
    exact List.Perm.cons_inv h2
theorem cut_sub (L : List Tm) (b : Nat) : (L.take b ++ L.drop (b + 1)).Sublist L := by
  have h := List.Sublist.append (List.Sublist.refl (L.take b)) (List.tail_sublist (L.drop b))
  rw [List.tail_drop, List.take_append_drop] at h
  exact h
/-- What stays of an account. -/
theorem rest_acc {S L L' : List Tm} {lim : Int} (hs : S.Pairwise Tm.lt) (hp : S.Perm L) (hq : L.Pairwise Tm.sq) (hsub : L'.Sublist L) (hp' : (rest lim S).Perm L') : L' = L.filter fun x => decide (lim < x.at_) := by
  refine seq_eq (hq.sublist hsub) (hq.sublist List.filter_sublist) ?_
  rw [rest_filter hs] at hp'
  exact hp'.symm.trans (hp.filter _)
end Go.Proofs.YtjlcchjcppkbjaaDoor
/- due: what an account has up to a time. -/
namespace Go.Proofs.YtjlcchjcppkbjaaDoor
open Go.RowKit
/-- A timer in an account: its time, its id, its handle. -/
def tmC (t : Tm) : List Value := [.int .i64 t.at_, .int .i64 t.id, .int .i64 t.h]
theorem tmC_len (t : Tm) : (tmC t).length = 3 := rfl
theorem tmC_one (t : Tm) : ∀ u ∈ tmC t, u.oneCell' = true := by
  intro u hu
  simp [tmC] at hu
  rcases hu with rfl | rfl | rfl <;> rfl
theorem Tryd.info34 : (Tryd.prog.info? 34).map (fun i => (i.zero, i.size, i.bytes)) = some (some (.agg #[.int .i64 0, .int .i64 0, .int .i64 0]), 3, 24) := by kernel_rfl
theorem el28 : ElemOk Tryd.prog 28 34 3 24 := .mk' Tryd.underlying28 Tryd.info34 rfl (by decide)
def OwnT (w : World) (base : Nat) (v : Value) (l : List Tm) : Prop := w.ownsRow base 34 3 v l.length (cellsL tmC l)
theorem OwnT.kept {S : Nat → Prop} {w w' : World} {base : Nat} {v : Value} {l : List Tm} (h : OwnT w base v l) (K : Kept S w w') (hS : ∀ b, base ≤ b → v.ownBlock = some b → ¬ S b) : OwnT w' base v l := ownsRow_kept h K hS
theorem OwnT.same {w w' : World} {base : Nat} {v : Value} {l : List Tm} (h : OwnT w base v l) (K : Kept (fun _ => False) w w') : OwnT w' base v l := h.kept K (fun _ _ _ h => h)
theorem OwnT.nil (w : World) (base : Nat) : OwnT w base (.slice none 0 0) [] := ⟨rfl, .inl ⟨rfl, rfl⟩⟩
theorem OwnT.sl {w : World} {base : Nat} {v : Value} {l : List Tm} (h : OwnT w base v l) : ∃ p c, v = .slice p l.length c := by
  rcases h.2 with ⟨q, h0⟩ | ⟨g, cap, cur, q, -⟩
  · exact ⟨none, 0, by rw [q, h0]⟩
  · exact ⟨_, cap, q⟩
theorem OwnT.rows {w : World} {base : Nat} {v : Value} {l : List Tm} (h : OwnT w base v l) : Rows tmC 3 w v l := Rows.of_own tmC_len h
theorem tm_at {w : World} {v : Value} {l : List Tm} (h : Rows tmC 3 w v l) {k : Nat} {x : Tm} (hk : l[k]? = some x) : ∃ b off c, v = .slice (some ⟨b, off, none⟩) l.length c ∧ (w.cell? ⟨b, off + k * 3, none⟩ = some (.int .i64 x.at_) ∧ w.cell? ⟨b, off + k * 3 + 1, none⟩ = some (.int .i64 x.id) ∧ w.cell? ⟨b, off + k * 3 + 2, none⟩ = some (.int .i64 x.h)) ∧ b < w.heap.size ∧ l.length ≤ c := by
  have hlt := (List.getElem?_eq_some_iff.1 hk).1
  obtain ⟨b, off, c, rfl, h0, h1, h2⟩ := h.pos (by omega)
  exact ⟨b, off, c, rfl, ⟨h2 k x hk 0 _ rfl, h2 k x hk 1 _ rfl, h2 k x hk 2 _ rfl⟩, h1, h0⟩
def slLen : Value → Nat
  | .slice _ n _ => n
  | _ => 0
/-- The best so far, of the first i. -/
def BestOf (lim : Int) (L : List Tm) (i : Nat) : Option Nat → Prop
  | none => ∀ (k : Nat) (t : Tm), k < i → L[k]? = some t → lim < t.at_
  | some b => b < i ∧ ∃ z, L[b]? = some z ∧ z.at_ ≤ lim ∧ ∀ (k : Nat) (t : Tm), k < i → L[k]? = some t → t.at_ ≤ lim → z.at_ ≤ t.at_ ∧ (t.at_ = z.at_ → b ≤ k)
def bestV : Option Nat → Int
  | none => -1
  | some b => b
theorem fresh_or {w V : World} {v : Value} {b0 g : Nat} (h : ∀ b, v.ownBlock = some b → b ≠ b0) (hb : b0 < w.heap.size) (K : Kept (fun _ => False) w V) (hor : v.ownBlock = some g ∨ V.heap.size ≤ g) (e : g = b0) : False := by
  rcases hor with q | q
  · exact h g q e
  · have := K.size; omega
theorem after_own {w5 w6 V w7 : World} {v6 v7 : Value} (K : Kept (fun _ => False) w5 w6) (h : ∀ b, v6.ownBlock = some b → w5.heap.size ≤ b) (K1 : Kept (fun _ => False) w6 V) (K7 : Kept (fun b => v6.ownBlock = some b) V w7) (h7 : ∀ b, v7.ownBlock = some b → v6.ownBlock = some b ∨ V.heap.size ≤ b) : Kept (fun _ => False) w5 w7 ∧ ∀ b, v7.ownBlock = some b → w5.heap.size ≤ b := by
  have k := K.trans K1 (fun _ _ h => h)
  refine ⟨k.trans K7 (fun b hb q => by have := h b q; omega), fun b q => ?_⟩
  rcases h7 b q with q | q
  · exact h b q
  · have := k.size; omega
def DuePost (w : World) (base : Nat) (v : Value) (S L : List Tm) (lim : Int) (e : Ending) (w' : World) : Prop := ∃ v1 v2, e = .returned (.tuple #[v1, v2]) ∧ Own w' w.heap.size v1 ((due lim S).map Tm.fd) ∧ OwnT w' base v2 (L.filter fun x => decide (lim < x.at_)) ∧ (∀ b, v1.ownBlock = some b → v2.ownBlock ≠ some b) ∧ (∀ b, v2.ownBlock = some b → v.ownBlock = some b ∨ w.heap.size ≤ b) ∧ Kept (fun _ => False) w w'
set_option maxRecDepth 100000 in
set_option maxHeartbeats 1000000 in
theorem due_c {w : World} {base : Nat} {v : Value} {S L : List Tm} (hs : S.Pairwise Tm.lt) (hp : S.Perm L) (hq : L.Pairwise Tm.sq) (hv : OwnT w base v L) (hll : L.length ≤ 1000) (hbase : base ≤ w.heap.size) (lim : Int) :
    Calls Tryd.prog 18 #[v, .int .i64 lim] w (DuePost w base v S L lim) := by
  have HV := Lib.hid hv
  have HQ := Lib.hid hq
  have HS := Lib.hid hs
  have HP := Lib.hid hp
  obtain ⟨p, c, rfl⟩ := hv.sl
  clear hv hq hs hp
  go_enter Tryd.func18, Tryd.ntmps18
  go_wp2_with fail
  go_loopw [0, 6] (fun s0 s6 wr => ∃ (D E L' : List Tm), S = D ++ E ∧ (∀ x ∈ D, x.at_ ≤ lim) ∧ E.Perm L' ∧ L'.Sublist L ∧ Own wr w.heap.size s6 (D.map Tm.fd) ∧ OwnT wr base s0 L' ∧ (∀ b, s6.ownBlock = some b → s0.ownBlock ≠ some b) ∧ (∀ b, s0.ownBlock = some b → (Value.slice p L.length c).ownBlock = some b ∨ w.heap.size ≤ b) ∧ Kept (fun _ => False) w wr) (fun s0 _ _ => slLen s0)
  case atStart => exact ⟨[], S, L, rfl, (fun x h => by simp at h), HP.out, List.Sublist.refl _, Own.nil _ _, HV.out, (fun b h => by simp [Value.ownBlock] at h), (fun b h => .inl h), Kept.refl _ _⟩
  case round =>
    generalize wr = wo at *
    obtain ⟨D, E, L', hS, hD, hE, hsub, ho, hown, hdj, hfr, K⟩ := hrel
    have HSS := Lib.hid hS
    have HD := Lib.hid hD
    have HE := Lib.hid hE
    have HSUB := Lib.hid hsub
    have HO := Lib.hid ho
    have HOW := Lib.hid hown
    have HDJ := Lib.hid hdj
    have HFR := Lib.hid hfr
    clear hfr
    have HK := Lib.hid K
    obtain ⟨p0, c0, rfl⟩ := hown.sl
    obtain ⟨p6, c6, rfl⟩ := ho.sl
    have hl' : L'.length ≤ L.length := hsub.length_le
    have hdl : D.length + E.length = S.length := by rw [hS, List.length_append]
    have hsl : S.length = L.length := HP.out.length_eq
    have HDL : Hid (D.length ≤ 1000) := Lib.hid (by omega)
    rw [List.length_map] at HO HDJ ⊢
    clear hS hD hE hsub ho hown hdj K hdl hsl
    go_wp2_with fail
    go_loopw [7, 8] (fun s7 s8 wr2 => ∃ (i : Nat) (o : Option Nat), i ≤ L'.length ∧ s8 = .int .i64 i ∧ s7 = .int .i64 (bestV o) ∧ BestOf lim L' i o ∧ Kept (fun _ => False) wo wr2) (fun _ s8 _ => L'.length - (intOf s8).toNat)
    case atStart => exact ⟨0, none, Nat.zero_le _, rfl, rfl, (fun k t h => by omega), Kept.refl _ _⟩
    case round =>
      obtain ⟨i, o, hi, rfl, rfl, hbest, K⟩ := hrel
      have HB := Lib.hid hbest
      have HK2 := Lib.hid K
      clear hbest K
      by_cases hlt : i < L'.length
      · obtain ⟨t, ht⟩ : ∃ t, L'[i]? = some t := ⟨_, List.getElem?_eq_getElem hlt⟩
        obtain ⟨b0, off0, c0', hv, ⟨a0, -, -⟩, bl, -⟩ := tm_at (HOW.out.rows.same HK2.out) ht
        injection hv with hv hvn hc
        clear hvn
        subst hv hc
        have i1 : (0 : Int) ≤ (i : Int) := by omega
        have i2 : (i : Int) < (L'.length : Int) := by omega
        by_cases hle : t.at_ ≤ lim
        · have e1 : decide (t.at_ ≤ lim) = true := by simpa using hle
          cases o with
          | none =>
            have HN : Hid (BestOf lim L' (i + 1) (some i)) := Lib.hid ⟨by omega, t, ht, hle, fun k t' hk ht' hle' => by
              by_cases e : k = i
              · subst e; rw [ht] at ht'; injection ht' with ht'; subst ht'; exact ⟨Int.le_refl _, fun _ => Nat.le_refl _⟩
              · have := HB.out k t' (by omega) ht'; omega⟩
            clear hle ht HB
            show Code.wp _ _ _ _ _
            simp only [bestV]
            go_wp2_with fail
            go_quiet (fail)
            go_wp2_with fail
            go_roundw
            case rel => exact ⟨i + 1, some i, by omega, by go_num, rfl, HN.out, HK2.out.drewN nq⟩
            case measure => simp [intOf]; omega
          | some b =>
            obtain ⟨hbi, z, hz, hzl, hall⟩ := HB.out
            obtain ⟨b1, off1, c1', hv, ⟨a1, -, -⟩, -, -⟩ := tm_at (HOW.out.rows.same HK2.out) hz
            injection hv with hv hvn hc
            clear hvn hc
            injection hv with hv
            injection hv with hv1 hv2 _
            subst hv1 hv2
            have i3 : (0 : Int) ≤ (b : Int) := by omega
            have i4 : (b : Int) < (L'.length : Int) := by omega
            have i5 : decide ((b : Int) < 0) = false := by simp only [decide_eq_false_iff_not]; omega
            by_cases hlz : t.at_ < z.at_
            · have e2 : decide (t.at_ < z.at_) = true := by simpa using hlz
              have HN : Hid (BestOf lim L' (i + 1) (some i)) := Lib.hid ⟨by omega, t, ht, hle, fun k t' hk ht' hle' => by
                by_cases e : k = i
                · subst e; rw [ht] at ht'; injection ht' with ht'; subst ht'; exact ⟨Int.le_refl _, fun _ => Nat.le_refl _⟩
                · have := hall k t' (by omega) ht' hle'; exact ⟨by omega, fun q => by omega⟩⟩
              clear hle ht HB hall hz hlz hzl
              show Code.wp _ _ _ _ _
              simp only [bestV]
              go_wp2_with fail
              go_quiet (fail)
              go_wp2_with fail
              go_roundw
              case rel => exact ⟨i + 1, some i, by omega, by go_num, rfl, HN.out, HK2.out.drewN nq⟩
              case measure => simp [intOf]; omega
            · have e2 : decide (t.at_ < z.at_) = false := by simpa using hlz
              have HN : Hid (BestOf lim L' (i + 1) (some b)) := Lib.hid ⟨by omega, z, hz, hzl, fun k t' hk ht' hle' => by
                by_cases e : k = i
                · subst e; rw [ht] at ht'; injection ht' with ht'; subst ht'; exact ⟨by omega, fun _ => by omega⟩
                · exact hall k t' (by omega) ht' hle'⟩
              clear hle ht HB hall hz hlz hzl
              show Code.wp _ _ _ _ _
              simp only [bestV]
              go_wp2_with fail
              go_quiet (fail)
              go_wp2_with fail
              go_roundw
              case rel => exact ⟨i + 1, some b, by omega, by go_num, rfl, HN.out, HK2.out.drewN nq⟩
              case measure => simp [intOf]; omega
        · have e1 : decide (t.at_ ≤ lim) = false := by simpa using hle
          have HN : Hid (BestOf lim L' (i + 1) o) := Lib.hid (by
            cases o with
            | none =>
              intro k t' hk ht'
              by_cases e : k = i
              · subst e; rw [ht] at ht'; injection ht' with ht'; subst ht'; omega
              · exact HB.out k t' (by omega) ht'
            | some b =>
              obtain ⟨hbi, z, hz, hzl, hall⟩ := HB.out
              exact ⟨by omega, z, hz, hzl, fun k t' hk ht' hle' => by
                by_cases e : k = i
                · subst e; rw [ht] at ht'; injection ht' with ht'; subst ht'; omega
                · exact hall k t' (by omega) ht' hle'⟩)
          clear hle ht HB
          go_wp2_with fail
          go_quiet (fail)
          go_wp2_with fail
          go_roundw
          case rel => exact ⟨i + 1, o, by omega, by go_num, rfl, HN.out, HK2.out.drewN nq⟩
          case measure => simp [intOf]; omega
      · obtain rfl : i = L'.length := by omega
        clear hlt hi
        cases o with
        | none =>
          have HX : Hid (DuePost w base (.slice p L.length c) S L lim (.returned (.tuple #[.slice p6 D.length c6, .slice p0 L'.length c0])) wr) := Lib.hid (by
            have hE2 : ∀ x ∈ E, lim < x.at_ := fun x hx => by
              obtain ⟨k, hk⟩ := List.getElem?_of_mem (HE.out.mem_iff.1 hx)
              exact HB.out k x (List.getElem?_eq_some_iff.1 hk).1 hk
            obtain ⟨d1, d2⟩ := due_app HD.out hE2
            rw [← HSS.out] at d1 d2
            have hL := rest_acc HS.out HP.out HQ.out HSUB.out (by rw [d2]; exact HE.out)
            refine ⟨_, _, rfl, by rw [d1]; exact HO.out.same HK2.out, by rw [← hL]; exact HOW.out.same HK2.out, HDJ.out, HFR.out, HK.out.trans HK2.out (fun _ _ h => h)⟩)
          clear HB
          show Code.wp _ _ _ _ _
          simp only [bestV]
          go_wp2_with fail
          go_ret2
          exact HX.out
        | some b =>
          obtain ⟨hbi, z, hz, hzl, hall⟩ := HB.out
          obtain ⟨E', hEz, hE'⟩ := best_head (by have := HS.out; rw [HSS.out, List.pairwise_append] at this; exact this.2.1) HE.out (HQ.out.sublist HSUB.out) hz hzl (fun k t hk hl => hall k t (List.getElem?_eq_some_iff.1 hk).1 hk hl)
          obtain ⟨b0, off0, c0', hv, ⟨a0, a1, -⟩, bl, hcap⟩ := tm_at (HOW.out.rows.same HK2.out) hz
          injection hv with hv hvn hc
          clear hvn
          subst hv hc
          obtain ⟨L2, hL2⟩ : ∃ L2, L'.take b ++ L'.drop (b + 1) = L2 := ⟨_, rfl⟩
          have hl2 : L2.length + 1 = L'.length := by rw [← hL2, List.length_append, List.length_take, List.length_drop]; omega
          have HNX : Hid (S = (D ++ [z]) ++ E' ∧ (∀ x ∈ D ++ [z], x.at_ ≤ lim) ∧ E'.Perm L2 ∧ L2.Sublist L) := Lib.hid ⟨by rw [HSS.out, hEz]; simp, fun x hx => by
            rcases List.mem_append.1 hx with q | q
            · exact HD.out x q
            · rw [List.mem_singleton.1 q]; exact hzl, by rw [← hL2]; exact hE', by rw [← hL2]; exact (cut_sub L' b).trans HSUB.out⟩
          have HL2 := Lib.hid hL2
          have i3 : (0 : Int) ≤ (b : Int) := by omega
          have i4 : (b : Int) < (L'.length : Int) := by omega
          have i5 : decide ((b : Int) < 0) = false := by simp only [decide_eq_false_iff_not]; omega
          have i6 : (b : Int) + 1 ≤ (L'.length : Int) := by omega
          have i7 : (b : Int) + 1 ≤ (c0 : Int) := by omega
          have i8 : (b : Int) ≤ (c0 : Int) := by omega
          have i9 : (L'.length : Int) ≤ (c0 : Int) := by omega
          have HLD : Hid (D.length ≤ 1000000) := Lib.hid (by have := HDL.out; omega)
          have HS0 : Hid (∀ V, Kept (fun _ => False) wr V → (V.cell? ⟨b0, off0 + b * 3, none⟩ = some (.int .i64 z.at_) ∧ V.cell? ⟨b0, off0 + b * 3 + 1, none⟩ = some (.int .i64 z.id) ∧ b0 < V.heap.size) ∧ V.ownsRow w.heap.size 54 2 (.slice p6 D.length c6) D.length (cellsL fdC (D.map Tm.fd)) ∧ w.heap.size ≤ V.heap.size) := Lib.hid fun V K => by
            have h1 := (HO.out.same HK2.out).same K
            unfold Own at h1
            rw [List.length_map] at h1
            exact ⟨⟨(K.cell (a := ⟨b0, off0 + b * 3, none⟩) bl (fun h => h)).trans a0, (K.cell (a := ⟨b0, off0 + b * 3 + 1, none⟩) bl (fun h => h)).trans a1, Nat.lt_of_lt_of_le bl K.size⟩, h1, Nat.le_trans HK.out.size (Nat.le_trans HK2.out.size K.size)⟩
          have HS1 : Hid (∀ V w5, Kept (fun _ => False) wr V → Kept (fun b => (Value.slice p6 D.length c6).ownBlock = some b) V w5 → (w5.cell? ⟨b0, off0 + b * 3, none⟩ = some (.int .i64 z.at_) ∧ w5.cell? ⟨b0, off0 + b * 3 + 1, none⟩ = some (.int .i64 z.id) ∧ b0 < w5.heap.size) ∧ OwnT w5 base (.slice (some ⟨b0, off0, none⟩) L'.length c0) L' ∧ Kept (fun _ => False) w w5 ∧ wr.heap.size ≤ w5.heap.size) := Lib.hid fun V w5 k1 k2 => by
            have hn : (Value.slice p6 D.length c6).ownBlock ≠ some b0 := fun e => HDJ.out b0 e rfl
            have kk : Kept (fun b => (Value.slice p6 D.length c6).ownBlock = some b) wr w5 := (k1.mono (fun _ _ h => h.elim)).trans k2 (fun _ _ h => h)
            exact ⟨⟨(kk.cell (a := ⟨b0, off0 + b * 3, none⟩) bl hn).trans a0, (kk.cell (a := ⟨b0, off0 + b * 3 + 1, none⟩) bl hn).trans a1, Nat.lt_of_lt_of_le bl kk.size⟩, (HOW.out.same HK2.out).kept kk (fun b _ q r => HDJ.out b r q), (HK.out.trans HK2.out (fun _ _ h => h)).trans kk (fun b hb q => by have := (ownsRow_block HO.out q).1; omega), kk.size⟩
          have HWO : Hid (wo.heap.size ≤ wr.heap.size) := Lib.hid HK2.out.size
          have HDJ2 : Hid (∀ b, (Value.slice p6 D.length c6).ownBlock = some b → b ≠ b0) := Lib.hid fun b q e => by subst e; exact HDJ.out b q rfl
          have HBL : Hid (b0 < wr.heap.size) := Lib.hid bl
          clear a0 a1 bl HO HOW HDJ HK HK2 HWO
          show Code.wp _ _ _ _ _
          simp only [bestV]
          go_wp2_with fail
          go_region_held3 (fun V => V.cell? ⟨b0, off0 + b * 3, none⟩ = some (.int .i64 z.at_) ∧ V.cell? ⟨b0, off0 + b * 3 + 1, none⟩ = some (.int .i64 z.id) ∧ b0 < V.heap.size) (first | exact HS2.out.1 | exact (HS0.out _ (by repeat (first | exact Kept.refl _ _ | refine Kept.alloc ?_ _ | refine Kept.drew ?_))).1) (first | (refine step_one rfl (.tmp 44) (.tmp 56) rfl el36 w.heap.size _ D.length _ _ (fdC z.fd) rfl rfl (HS0.out _ (by repeat (first | exact Kept.refl _ _ | refine Kept.alloc ?_ _ | refine Kept.drew ?_))).2.1 rfl (fun j u hj => by (first | rw [World.cell?_alloc_at _ _ _ _ rfl] | rw [drew_cell, World.cell?_alloc_at _ _ _ _ rfl]); have hj2 := hj; simp only [fdC, Tm.fd] at hj2; simpa using hj2) (fdC_one _) HLD.out (by decide) (HS0.out _ (by repeat (first | exact Kept.refl _ _ | refine Kept.alloc ?_ _ | refine Kept.drew ?_))).2.2 ?_; intro g2 cg w5 hown5 K5 hor hg5; have HS2 := Lib.hid (HS1.out _ w5 (by repeat (first | exact Kept.refl _ _ | refine Kept.alloc ?_ _ | refine Kept.drew ?_)) K5); have HW5 := Lib.hid hown5; have HG5 : Hid (g2 ≠ b0 ∧ g2 < w5.heap.size) := Lib.hid ⟨fun e => fresh_or HDJ2.out HBL.out (by repeat (first | exact Kept.refl _ _ | refine Kept.alloc ?_ _ | refine Kept.drew ?_)) hor e, hg5⟩; clear hown5 K5 hor hg5))
          have HL5 : Hid (Kept (fun _ => False) w w5 ∧ wr.heap.size ≤ w5.heap.size) := Lib.hid HS2.out.2.2
          have hrw := HS2.out.2.1.rows
          have HTK : Hid (∀ V, Kept (fun _ => False) w5 V → Rows tmC 3 V (.slice (some ⟨b0, off0, none⟩) b c0) (L'.take b)) := Lib.hid fun V K => (hrw.same K).take (by omega)
          have HDR : Hid (∀ V, Kept (fun _ => False) w5 V → Rows tmC 3 V (.slice (some ⟨b0, off0 + (b + 1) * 3, none⟩) (L'.length - (b + 1)) (c0 - (b + 1))) (L'.drop (b + 1))) := Lib.hid fun V K => (hrw.same K).drop (by omega)
          have HE0 : Hid (∀ (g : Nat) (V V' : World), Kept (fun _ => False) (V.alloc (.cells #[] 34)) V' → Kept (fun _ => False) w5 V → V.heap.size = g → (V'.ownsRow base 34 3 (.slice (some ⟨g, 0, none⟩) 0 0) 0 [] ∧ base ≤ V'.heap.size ∧ Kept (fun _ => False) w5 V') ∧ ∀ (v6 : Value) (w6 : World), Kept (fun b => (Value.slice (some ⟨g, 0, none⟩) 0 0).ownBlock = some b) V' w6 → (∀ b, v6.ownBlock = some b → (Value.slice (some ⟨g, 0, none⟩) 0 0).ownBlock = some b ∨ V'.heap.size ≤ b) → Kept (fun _ => False) w5 w6 ∧ ∀ b, v6.ownBlock = some b → w5.heap.size ≤ b) := Lib.hid fun g V V' k2 k1 hg => by
            have hb5 : base ≤ w5.heap.size := Nat.le_trans hbase HL5.out.1.size
            have s1 := k1.size
            have s2 := k2.size
            have s3 : (V.alloc (.cells #[] 34)).heap.size = V.heap.size + 1 := by simp
            have k3 : Kept (fun _ => False) w5 V' := (k1.alloc _).trans k2 (fun _ _ h => h)
            refine ⟨⟨?_, by omega, k3⟩, fun v6 w6 k4 hb => ⟨k3.trans k4 (fun b hb q => by injection q with q; simp only at q; omega), fun b q => ?_⟩⟩
            · subst hg
              exact ownsRow_kept (ownsRow_base (own_empty V 34 3) (by omega)) k2 (fun _ _ _ h => h)
            · rcases hb b q with q | q
              · injection q with q; simp only at q; omega
              · omega
          have HLT : Hid ((L'.take b).length = b ∧ (L'.drop (b + 1)).length = L'.length - (b + 1)) := Lib.hid ⟨by rw [List.length_take]; omega, List.length_drop⟩
          have HZ : Hid (b + (L'.length - (b + 1)) ≤ 1000000 ∧ b + (L'.length - (b + 1)) = L2.length ∧ b ≤ 1000000) := Lib.hid (by omega)
          have i10 : ((b : Int) + 1).toNat = b + 1 := by omega
          have i11 : IntKind.i64.wrap ((b : Int) + 1) = (b : Int) + 1 := IntWalk.i64_in _ (by omega)
          have i13 : (0 : Int) ≤ (b : Int) + 1 := by omega
          clear HS0 HS1 HS2 hrw
          by_cases hcb : c0 = b + 1
          · have hlb : L'.length = b + 1 := by omega
            have HDR0 : Hid (∀ V, Rows tmC 3 V (.slice (some ⟨b0, off0, none⟩) 0 0) (L'.drop (b + 1))) := Lib.hid fun V => .inl ⟨_, _, rfl, by rw [← hlb]; exact List.drop_length⟩
            subst hcb
            rw [hlb]
            have i14 : (b : Int) ≤ (b : Int) + 1 := by omega
            go_wp2_with fail
            go_region_law (first | (refine step_rows rfl (.tmp 62) (.tmp 66) rfl el28 tmC_len tmC_one base _ _ b _ (L'.drop (b + 1)) rfl rfl (ownsRow_kept HW6.out (by repeat (first | exact Kept.refl _ _ | refine Kept.drew ?_)) (fun _ _ _ h => h)) (HDR0.out _) (by rw [HLT.out.2]; exact HZ.out.1) (by decide) (Nat.le_trans hbase (Nat.le_trans HL5.out.1.size (HK6.out.1.trans (by repeat (first | exact Kept.refl _ _ | refine Kept.drew ?_)) (fun _ _ h => h)).size)) ?_; intro v7 w7 hown7 K7 hb7; have HW7 := Lib.hid hown7; have HK7 := Lib.hid (after_own HK6.out.1 HK6.out.2 (by repeat (first | exact Kept.refl _ _ | refine Kept.drew ?_)) K7 hb7); clear hown7 K7 hb7) | (refine step_rows rfl (.tmp 58) (.tmp 61) rfl el28 tmC_len tmC_one base _ _ 0 [] (L'.take b) rfl rfl (HE0.out _ _ _ (by repeat (first | exact Kept.refl _ _ | refine Kept.drew ?_)) (by repeat (first | exact Kept.refl _ _ | refine Kept.drew ?_)) (by simp)).1.1 (HTK.out _ (HE0.out _ _ _ (by repeat (first | exact Kept.refl _ _ | refine Kept.drew ?_)) (by repeat (first | exact Kept.refl _ _ | refine Kept.drew ?_)) rfl).1.2.2) (by rw [HLT.out.1, Nat.zero_add]; exact HZ.out.2.2) (by decide) (HE0.out _ _ _ (by repeat (first | exact Kept.refl _ _ | refine Kept.drew ?_)) (by repeat (first | exact Kept.refl _ _ | refine Kept.drew ?_)) rfl).1.2.1 ?_; intro v6 w6 hown6 K6 hb6; have HK6 := Lib.hid ((HE0.out _ _ _ (by repeat (first | exact Kept.refl _ _ | refine Kept.drew ?_)) (by repeat (first | exact Kept.refl _ _ | refine Kept.drew ?_)) (by simp)).2 v6 w6 K6 hb6); rw [HLT.out.1, Nat.zero_add] at hown6; have HW6 := Lib.hid hown6; clear hown6 K6 hb6))
            have HN6 : Hid (Own w7 w.heap.size (.slice (some ⟨g2, 0, none⟩) (D.length + 1) cg) ((D ++ [z]).map Tm.fd)) := Lib.hid (by
              have h1 := ownsRow_kept HW5.out HK7.out.1 (fun _ _ _ h => h)
              unfold Own
              rw [List.map_append, List.length_append, List.length_map, cellsL_append]
              exact h1)
            have HN7 : Hid (OwnT w7 base v7 L2) := Lib.hid (by
              have h1 := HW7.out
              rw [HLT.out.2, HZ.out.2.1] at h1
              unfold OwnT
              rw [← HL2.out, cellsL_append, HL2.out]
              exact h1)
            have HN8 : Hid (∀ b, (Value.slice (some ⟨g2, 0, none⟩) (D.length + 1) cg).ownBlock = some b → v7.ownBlock ≠ some b) := Lib.hid fun b q r => by
              injection q with q
              have h1 := HK7.out.2 b r
              have h2 := HG5.out.2
              simp only at q
              omega
            obtain ⟨p7, c7, rfl⟩ := HN7.out.sl
            show Exit.inBlock 1 _ Exit.normal _ w7
            go_simp
            go_wp2_with fail
            go_roundw
            case rel => exact ⟨D ++ [z], E', L2, HNX.out.1, HNX.out.2.1, HNX.out.2.2.1, HNX.out.2.2.2, HN6.out, HN7.out, HN8.out, (fun b q => .inr (by have h1 := HK7.out.2 b q; have h2 := HL5.out.1.size; omega)), HL5.out.1.trans HK7.out.1 (fun _ _ h => h)⟩
            case measure => simp [slLen]; omega
          · go_wp2_with fail
            go_region_law (first | (refine step_rows rfl (.tmp 62) (.tmp 66) rfl el28 tmC_len tmC_one base _ _ b _ (L'.drop (b + 1)) rfl rfl (ownsRow_kept HW6.out (by repeat (first | exact Kept.refl _ _ | refine Kept.drew ?_)) (fun _ _ _ h => h)) (HDR.out _ (HK6.out.1.trans (by repeat (first | exact Kept.refl _ _ | refine Kept.drew ?_)) (fun _ _ h => h))) (by rw [HLT.out.2]; exact HZ.out.1) (by decide) (Nat.le_trans hbase (Nat.le_trans HL5.out.1.size (HK6.out.1.trans (by repeat (first | exact Kept.refl _ _ | refine Kept.drew ?_)) (fun _ _ h => h)).size)) ?_; intro v7 w7 hown7 K7 hb7; have HW7 := Lib.hid hown7; have HK7 := Lib.hid (after_own HK6.out.1 HK6.out.2 (by repeat (first | exact Kept.refl _ _ | refine Kept.drew ?_)) K7 hb7); clear hown7 K7 hb7) | (refine step_rows rfl (.tmp 58) (.tmp 61) rfl el28 tmC_len tmC_one base _ _ 0 [] (L'.take b) rfl rfl (HE0.out _ _ _ (by repeat (first | exact Kept.refl _ _ | refine Kept.drew ?_)) (by repeat (first | exact Kept.refl _ _ | refine Kept.drew ?_)) (by simp)).1.1 (HTK.out _ (HE0.out _ _ _ (by repeat (first | exact Kept.refl _ _ | refine Kept.drew ?_)) (by repeat (first | exact Kept.refl _ _ | refine Kept.drew ?_)) rfl).1.2.2) (by rw [HLT.out.1, Nat.zero_add]; exact HZ.out.2.2) (by decide) (HE0.out _ _ _ (by repeat (first | exact Kept.refl _ _ | refine Kept.drew ?_)) (by repeat (first | exact Kept.refl _ _ | refine Kept.drew ?_)) rfl).1.2.1 ?_; intro v6 w6 hown6 K6 hb6; have HK6 := Lib.hid ((HE0.out _ _ _ (by repeat (first | exact Kept.refl _ _ | refine Kept.drew ?_)) (by repeat (first | exact Kept.refl _ _ | refine Kept.drew ?_)) (by simp)).2 v6 w6 K6 hb6); rw [HLT.out.1, Nat.zero_add] at hown6; have HW6 := Lib.hid hown6; clear hown6 K6 hb6))
            have HN6 : Hid (Own w7 w.heap.size (.slice (some ⟨g2, 0, none⟩) (D.length + 1) cg) ((D ++ [z]).map Tm.fd)) := Lib.hid (by
              have h1 := ownsRow_kept HW5.out HK7.out.1 (fun _ _ _ h => h)
              unfold Own
              rw [List.map_append, List.length_append, List.length_map, cellsL_append]
              exact h1)
            have HN7 : Hid (OwnT w7 base v7 L2) := Lib.hid (by
              have h1 := HW7.out
              rw [HLT.out.2, HZ.out.2.1] at h1
              unfold OwnT
              rw [← HL2.out, cellsL_append, HL2.out]
              exact h1)
            have HN8 : Hid (∀ b, (Value.slice (some ⟨g2, 0, none⟩) (D.length + 1) cg).ownBlock = some b → v7.ownBlock ≠ some b) := Lib.hid fun b q r => by
              injection q with q
              have h1 := HK7.out.2 b r
              have h2 := HG5.out.2
              simp only at q
              omega
            obtain ⟨p7, c7, rfl⟩ := HN7.out.sl
            show Exit.inBlock 1 _ Exit.normal _ w7
            go_simp
            go_wp2_with fail
            go_roundw
            case rel => exact ⟨D ++ [z], E', L2, HNX.out.1, HNX.out.2.1, HNX.out.2.2.1, HNX.out.2.2.2, HN6.out, HN7.out, HN8.out, (fun b q => .inr (by have h1 := HK7.out.2 b q; have h2 := HL5.out.1.size; omega)), HL5.out.1.trans HK7.out.1 (fun _ _ h => h)⟩
            case measure => simp [slLen]; omega
end Go.Proofs.YtjlcchjcppkbjaaDoor
/- An account of what a wheel has. -/
namespace Go.Proofs.YtjlcchjcppkbjaaDoor
open Go.RowKit
/-- The account inn, in the order in which they were added, is what the wheel W has. -/
structure Acc (W : Wh) (inn : List Tm) : Prop where
  perm : W.l.Perm inn
  sq : inn.Pairwise Tm.sq
theorem Acc.len {W : Wh} {inn : List Tm} (h : Acc W inn) : W.l.length = inn.length := h.perm.length_eq
theorem Acc.nil {W : Wh} (h : W.l = []) : Acc W [] := ⟨by rw [h], List.Pairwise.nil⟩
theorem Acc.add {W W' : Wh} {inn : List Tm} (h : Acc W inn) (ok : WOk W) {x : Tm} (hx : x.seq = W.seq + 1) (hl : W'.l = ins x W.l) : Acc W' (inn ++ [x]) where
  perm := by
    rw [hl]
    exact (ins_perm x W.l).trans ((List.perm_append_singleton x W.l).symm.trans (h.perm.append_right [x]))
  sq := by
    rw [List.pairwise_append]
    refine ⟨h.sq, List.pairwise_singleton _ _, fun a ha b hb => ?_⟩
    rw [List.mem_singleton.1 hb]
    have := (ok.seq a (h.perm.mem_iff.2 ha)).2
    unfold Tm.sq
    omega
theorem Acc.cancel {W W' : Wh} {inn : List Tm} (h : Acc W inn) {hd : Int} (hl : W'.l = W.l.filter fun x => decide (x.h ≠ hd)) : Acc W' (inn.filter fun x => decide (x.h ≠ hd)) :=
  ⟨by rw [hl]; exact h.perm.filter _, h.sq.sublist List.filter_sublist⟩
theorem Acc.adv {W W' : Wh} {inn : List Tm} (h : Acc W inn) (ok : WOk W) {lim : Int} (hl : W'.l = rest lim W.l) : Acc W' (inn.filter fun x => decide (lim < x.at_)) :=
  ⟨by rw [hl, rest_filter ok.sorted]; exact h.perm.filter _, h.sq.sublist List.filter_sublist⟩
/-- The earliest time of an account. -/
theorem acc_min {W : Wh} {inn : List Tm} (h : Acc W inn) (ok : WOk W) {x : Tm} {r : List Tm} (hl : W.l = x :: r) : (∃ t ∈ inn, t.at_ = x.at_) ∧ ∀ t ∈ inn, x.at_ ≤ t.at_ := by
  refine ⟨⟨x, h.perm.mem_iff.1 (by rw [hl]; simp), rfl⟩, fun t ht => ?_⟩
  have h1 := h.perm.mem_iff.2 ht
  have h2 := ok.sorted
  rw [hl] at h1 h2
  rw [List.pairwise_cons] at h2
  rcases List.mem_cons.1 h1 with rfl | q
  · exact Int.le_refl _
  · have := h2.1 t q
    unfold Tm.lt at this
    omega
/-- What the list that a cut begins with is. -/
theorem he0 {w5 : World} {base : Nat} (hb5 : base ≤ w5.heap.size) (g : Nat) (V V' : World) (k2 : Kept (fun _ => False) (V.alloc (.cells #[] 34)) V') (k1 : Kept (fun _ => False) w5 V) (hg : V.heap.size = g) :
    (V'.ownsRow base 34 3 (.slice (some ⟨g, 0, none⟩) 0 0) 0 [] ∧ base ≤ V'.heap.size ∧ Kept (fun _ => False) w5 V') ∧ ∀ (v6 : Value) (w6 : World), Kept (fun b => (Value.slice (some ⟨g, 0, none⟩) 0 0).ownBlock = some b) V' w6 → (∀ b, v6.ownBlock = some b → (Value.slice (some ⟨g, 0, none⟩) 0 0).ownBlock = some b ∨ V'.heap.size ≤ b) → Kept (fun _ => False) w5 w6 ∧ ∀ b, v6.ownBlock = some b → w5.heap.size ≤ b := by
  have s1 := k1.size
  have s2 := k2.size
  have s3 : (V.alloc (.cells #[] 34)).heap.size = V.heap.size + 1 := by simp
  have k3 : Kept (fun _ => False) w5 V' := (k1.alloc _).trans k2 (fun _ _ h => h)
  refine ⟨⟨?_, by omega, k3⟩, fun v6 w6 k4 hb => ⟨k3.trans k4 (fun b hb q => by injection q with q; simp only at q; omega), fun b q => ?_⟩⟩
  · subst hg
    exact ownsRow_kept (ownsRow_base (own_empty V 34 3) (by omega)) k2 (fun _ _ _ h => h)
  · rcases hb b q with q | q
    · injection q with q; simp only at q; omega
    · omega
/-- The one with a handle is taken out. -/
theorem filter_cut {L : List Tm} (hn : (L.map Tm.h).Nodup) {b : Nat} {z : Tm} (hz : L[b]? = some z) : (L.filter fun x => decide (x.h ≠ z.h)) = L.take b ++ L.drop (b + 1) := by
  induction L generalizing b with
  | nil => simp at hz
  | cons y L ih =>
    rw [List.map_cons, List.nodup_cons] at hn
    cases b with
    | zero =>
      simp at hz
      subst hz
      rw [List.filter_cons]
      simp only [ne_eq, not_true_eq_false, decide_false]
      rw [if_neg (by simp), List.take_zero, List.nil_append, Nat.zero_add, List.drop_succ_cons, List.drop_zero]
      refine List.filter_eq_self.2 fun x hx => ?_
      simp only [decide_eq_true_eq]
      exact fun e => hn.1 (List.mem_map.2 ⟨x, hx, e⟩)
    | succ b =>
      simp at hz
      have hne : y.h ≠ z.h := fun e => hn.1 (List.mem_map.2 ⟨z, List.mem_of_getElem? hz, e.symm⟩)
      rw [List.filter_cons, if_pos (by simpa using hne), ih hn.2 hz, List.take_succ_cons, List.drop_succ_cons, List.cons_append]
theorem Acc.nodup {W : Wh} {inn : List Tm} (h : Acc W inn) (ok : WOk W) : (inn.map Tm.h).Nodup := ((h.perm.map Tm.h).nodup_iff).1 ok.inj
/-- Where a handle stands among the first i: nowhere, or at one place. -/
def HasH (h : Int) (L : List Tm) (i : Nat) : Option Nat → Prop
  | none => ∀ (j : Nat) (t : Tm), j < i → L[j]? = some t → t.h ≠ h
  | some b => b < i ∧ ∃ z, L[b]? = some z ∧ z.h = h
theorem HasH.next {h : Int} {L : List Tm} {i : Nat} {o : Option Nat} (hh : HasH h L i o) {t : Tm} (ht : L[i]? = some t) : (t.h = h → HasH h L (i + 1) (some i)) ∧ (t.h ≠ h → HasH h L (i + 1) o) := by
  refine ⟨fun e => ⟨by omega, t, ht, e⟩, fun e => ?_⟩
  cases o with
  | none =>
    intro j t' hj ht'
    by_cases q : j = i
    · subst q; rw [ht] at ht'; injection ht' with ht'; subst ht'; exact e
    · exact hh j t' (by omega) ht'
  | some b =>
    obtain ⟨h1, h2⟩ := hh
    exact ⟨by omega, h2⟩
/-- The distances of WheelFar. -/
def farD (r : Int) : Int := 2 ^ (r % 40).toNat + r / 40 % 100 - 50
theorem farD_rng {r : Int} (h0 : 0 ≤ r) (h1 : r ≤ 65535) : -50 ≤ farD r ∧ farD r ≤ 549755813937 ∧ 1 ≤ (2 : Int) ^ (r % 40).toNat ∧ (2 : Int) ^ (r % 40).toNat ≤ 549755813888 ∧ 0 ≤ r / 40 % 100 ∧ r / 40 % 100 ≤ 99 := by
  have h2 : (r % 40).toNat ≤ 39 := by omega
  have h3 : (2 : Int) ^ (r % 40).toNat ≤ 2 ^ 39 := by exact_mod_cast Nat.pow_le_pow_right (by omega) h2
  have h4 : 1 ≤ (2 : Int) ^ (r % 40).toNat := by exact_mod_cast Nat.one_le_two_pow
  have h5 : (2 : Int) ^ 39 = 549755813888 := by decide
  unfold farD
  refine ⟨by omega, by omega, h4, by omega, by omega, by omega⟩
theorem far_at {now r : Int} (n0 : 0 ≤ now) (n1 : now ≤ 2305843009213693952) (h0 : 0 ≤ r) (h1 : r ≤ 65535) : now < wrap64 (now + max 1 (wrap64 (wrap64 (2 ^ (r % 40).toNat + wrap64 ((IntKind.u16.wrap (r.tdiv 40)).tmod 100)) - 50))) ∧ wrap64 (now + max 1 (wrap64 (wrap64 (2 ^ (r % 40).toNat + wrap64 ((IntKind.u16.wrap (r.tdiv 40)).tmod 100)) - 50))) ≤ 4611686018427387904 := by
  obtain ⟨-, -, q3, q4, q5, q6⟩ := farD_rng h0 h1
  have e0 : r.tdiv 40 = r / 40 := Int.tdiv_eq_ediv_of_nonneg h0
  have e1 : IntKind.u16.wrap (r / 40) = r / 40 := IntWalk.u16_in _ (by omega)
  have e2 : (r / 40).tmod 100 = r / 40 % 100 := Int.tmod_eq_emod_of_nonneg (by omega)
  rw [e0, e1, e2]
  generalize (2 : Int) ^ (r % 40).toNat = P at *
  generalize r / 40 % 100 = Q at *
  have e3 : wrap64 Q = Q := IntWalk.wrap64_in _ (by omega)
  have e4 : wrap64 (P + Q) = P + Q := IntWalk.wrap64_in _ (by omega)
  have e5 : wrap64 (P + Q - 50) = P + Q - 50 := IntWalk.wrap64_in _ (by omega)
  rw [e3, e4, e5]
  have e6 : wrap64 (now + max 1 (P + Q - 50)) = now + max 1 (P + Q - 50) := IntWalk.wrap64_in _ (by omega)
  rw [e6]
  omega
end Go.Proofs.YtjlcchjcppkbjaaDoor
