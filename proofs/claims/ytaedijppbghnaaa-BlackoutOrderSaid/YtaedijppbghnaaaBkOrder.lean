/- The outright law of order. -/
import Derived.Test.YtaedijppbghnaaaBkConcat
import Derived.Deep.Cut
import Derived.Deep.CutRange
import Derived.Deep.DeepCutAuto
namespace Go.Proofs.Ytaedijppbghnaaa
open Go.RowKit
open Bk (Sp has chk vld)
attribute [local go_sem] Oper.semAt_some

/-- Every other span is cut. -/
def cut1 (d : Int) (i : Nat) (x : Sp) : List Sp := if i % 2 = 0 ∧ x.1 + d < x.2 then [(x.1 + d + 1, x.2), (x.1, x.1 + d)] else [x]
def cuts (d : Int) (l : List Sp) : Nat → List Sp
  | 0 => []
  | j + 1 => cuts d l j ++ (match l[j]? with | some x => cut1 d j x | none => [])
theorem cuts_step (d : Int) {l : List Sp} {j : Nat} (h : j < l.length) : cuts d l (j + 1) = cuts d l j ++ cut1 d j l[j] := by
  rw [cuts, List.getElem?_eq_getElem h]
theorem cuts_len (d : Int) (l : List Sp) : ∀ j, (cuts d l j).length ≤ 2 * j
  | 0 => by simp [cuts]
  | j + 1 => by
    have := cuts_len d l j
    rw [cuts, List.length_append]
    cases l[j]? with
    | none => simp; omega
    | some x =>
      simp only [cut1]
      split <;> simp <;> omega
theorem cut1_has {d : Int} (hd : 0 ≤ d) (i : Nat) (x : Sp) (_hx : x.1 ≤ x.2) (t : Int) : has (cut1 d i x) t = inS t x := by
  unfold cut1
  split
  · rename_i h
    rw [Bk.has_cons, Bk.has_cons, Bk.has_nil, Bool.or_false, Bool.eq_iff_iff]
    simp [inS]
    omega
  · rw [Bk.has_cons, Bk.has_nil, Bool.or_false]; rfl
theorem cuts_has {d : Int} (hd : 0 ≤ d) {l : List Sp} (hl : ∀ x ∈ l, x.1 ≤ x.2) (t : Int) : ∀ j, j ≤ l.length → has (cuts d l j) t = has (l.take j) t
  | 0, _ => rfl
  | j + 1, h => by
    rw [cuts_step d (by omega : j < l.length), Bk.has_append, cuts_has hd hl t j (by omega), cut1_has hd j _ (hl _ (List.getElem_mem _)), List.take_add_one, List.getElem?_eq_getElem (by omega : j < l.length), Bk.has_append]
    congr 1
    show inS t l[j] = has [l[j]] t
    rw [Bk.has_cons, Bk.has_nil, Bool.or_false]; rfl
theorem cuts_good {d : Int} (hd : 0 ≤ d) {l : List Sp} (hl : ∀ s ∈ l, (0 ≤ s.1 ∧ s.1 ≤ s.2) ∧ s.2 ≤ 199) : ∀ j, ∀ s ∈ cuts d l j, (0 ≤ s.1 ∧ s.1 ≤ s.2) ∧ s.2 ≤ 199
  | 0, s, hs => by simp [cuts] at hs
  | j + 1, s, hs => by
    rw [cuts] at hs
    rcases List.mem_append.1 hs with hs | hs
    · exact cuts_good hd hl j s hs
    · cases hj : l[j]? with
      | none => rw [hj] at hs; simp at hs
      | some x =>
        rw [hj] at hs
        have hx := hl x (List.mem_of_getElem? hj)
        simp only [cut1] at hs
        split at hs
        · simp at hs
          rcases hs with rfl | rfl <;> simp only <;> omega
        · simp at hs; subst hs; exact hx
/-- A valid list with the times of a. -/
structure Same (a c : List Sp) : Prop where
  chk : chk c = 0
  len : c.length ≤ 60
  has : ∀ t, has c t = has a t
theorem rot_same {a : List Sp} (ha : Sp200 a) (k : Nat) {d : Int} (hd : 0 ≤ d) : Same a (cuts d (a.drop k ++ a.take k) (a.drop k ++ a.take k).length) := by
  have hp : (a.drop k ++ a.take k).Perm a := by
    have := (List.perm_append_comm (l₁ := a.drop k) (l₂ := a.take k))
    rwa [List.take_append_drop] at this
  have hm : ∀ s ∈ a.drop k ++ a.take k, (0 ≤ s.1 ∧ s.1 ≤ s.2) ∧ s.2 ≤ 199 := fun s hs => ha.bd s (hp.mem_iff.1 hs)
  have hg := cuts_good hd hm (a.drop k ++ a.take k).length
  have hlen := cuts_len d (a.drop k ++ a.take k) (a.drop k ++ a.take k).length
  have hll := hp.length_eq
  have hl20 := ha.len
  refine ⟨Bk.chk_good.2 ⟨by omega, fun s hs => (hg s hs).1.2, fun s hs => (hg s hs).1.1, fun s hs => by have := (hg s hs).2; omega⟩, by omega, fun t => ?_⟩
  rw [cuts_has hd (fun x hx => (hm x hx).1.2) t _ (Nat.le_refl _), List.take_of_length_le (Nat.le_refl _), Bk.has_perm hp]
theorem same_rres {want : Bool → Bool → Bool} (hw : want false false = false) {a b a' b' : List Sp} (h : ∀ t, want (has a t) (has b t) = want (has a' t) (has b' t)) : Bk.rres want a b = Bk.rres want a' b' :=
  Bk.norm_unique (Bk.rres_law want hw a b).1 (Bk.rres_law want hw a' b').1 fun t => by rw [(Bk.rres_law want hw a b).2, (Bk.rres_law want hw a' b').2, h]
theorem order_plain {a b c : List Sp} (ha : Sp200 a) (hb : Sp200 b) (hc : Same a c) :
    Bk.rres wOr c [] = Bk.rres wOr a [] ∧ Bk.rres wOr (Bk.rres wOr a []) [] = Bk.rres wOr a [] ∧ Bk.rres wOr b c = Bk.rres wOr a b ∧ Bk.rres wAnd b c = Bk.rres wAnd a b ∧
      err2 c [] = 0 ∧ err2 (Bk.rres wOr a []) [] = 0 ∧ err2 b c = 0 ∧ (Bk.rres wOr a []).length ≤ a.length := by
  have hn := rres_200 (want := wOr) rfl ha sp200_nil
  refine ⟨same_rres rfl fun t => by rw [hc.has], same_rres rfl fun t => by rw [hn.2.2.2.2]; cases has a t <;> rfl, same_rres rfl fun t => by rw [hc.has]; cases has a t <;> cases has b t <;> rfl,
    same_rres rfl fun t => by rw [hc.has]; cases has a t <;> cases has b t <;> rfl, (err2_nil c).trans hc.chk, (err2_nil _).trans hn.2.2.2.1, ?_, ?_⟩
  · unfold err2
    rw [if_neg (by simp [hb.chk])]
    exact hc.chk
  · have := rres_len2 wOr a []
    simpa using this
theorem Prs.dropk {w : World} {g cap : Nat} {l : List Sp} (h : Prs w (.slice (some ⟨g, 0, none⟩) l.length cap) l) {k n c off : Nat} (hn : n = l.length - k) (ho : k < l.length → off = k * 2) : Prs w (.slice (some ⟨g, off, none⟩) n c) (l.drop k) := by
  subst hn
  by_cases hk : k < l.length
  · obtain ⟨b, o, cap', hv, hb, hc⟩ := h.pos (by omega)
    injection hv with e1 e2 e3
    injection e1 with e1
    injection e1 with e1 e4
    subst e1 e4
    refine .inr ⟨g, off, c, by rw [List.length_drop], hb, fun j x hx => ?_⟩
    rw [List.getElem?_drop] at hx
    have := hc (k + j) x hx
    rw [ho hk]
    rw [Nat.zero_add, Nat.add_mul] at this
    exact this
  · rw [List.drop_eq_nil_of_le (by omega), Nat.sub_eq_zero_of_le (by omega)]
    exact Prs.nil _ _ _
theorem Prs.takek {w : World} {g cap : Nat} {l : List Sp} (h : Prs w (.slice (some ⟨g, 0, none⟩) l.length cap) l) {k c : Nat} (hk : k ≤ l.length) : Prs w (.slice (some ⟨g, 0, none⟩) k c) (l.take k) := by
  by_cases h0 : k = 0
  · subst h0; exact Prs.nil _ _ _
  · obtain ⟨b, o, cap', hv, hb, hc⟩ := h.pos (by omega)
    injection hv with e1 e2 e3
    injection e1 with e1
    injection e1 with e1 e4
    subst e1 e4
    refine .inr ⟨g, 0, c, by rw [List.length_take, Nat.min_eq_left hk], hb, fun j x hx => hc j x ?_⟩
    have hj := (List.getElem?_eq_some_iff.1 hx).1
    rw [List.length_take] at hj
    rw [← hx, List.getElem?_take_of_lt (by omega)]
set_option maxRecDepth 100000 in
set_option maxHeartbeats 4000000 in
theorem order_w {w : World} {va vb : Value} {l m : List (Int × Int)} (h : PrsK .u8 w va l) (h63 : l.length ≤ maxLen) (hcap : ∀ a n c, va = .slice a n c → n ≤ c ∧ c ≤ maxLen) (hz : Nz va) (hbd : ∀ x ∈ l, (0 ≤ x.1 ∧ x.1 ≤ 255) ∧ 0 ≤ x.2 ∧ x.2 ≤ 255)
    (g : PrsK .u8 w vb m) (g63 : m.length ≤ maxLen) (gcap : ∀ a n c, vb = .slice a n c → n ≤ c ∧ c ≤ maxLen) (gz : Nz vb) (gbd : ∀ x ∈ m, (0 ≤ x.1 ∧ x.1 ≤ 255) ∧ 0 ≤ x.2 ∧ x.2 ≤ 255)
    (at' : Int) (a0 : 0 ≤ at' ∧ at' ≤ 255) :
    Calls Try.prog 11 #[va, vb, .int .u8 at'] w (Tru w) := by
  have HS := Lib.hid (spans_c h h63 hcap hz hbd)
  have HS2 := Lib.hid (fun W K => spans_c (w := W) (g.same K) g63 gcap gz gbd)
  have ha := spn_200 hbd
  have hb := spn_200 gbd
  obtain ⟨p, cap, rfl⟩ := h.len
  obtain ⟨p2, cap2, rfl⟩ := g.len
  clear h h63 hcap hz hbd g g63 gcap gz gbd
  obtain ⟨a, hla⟩ : ∃ a, spn l = a := ⟨_, rfl⟩
  obtain ⟨b, hlb⟩ : ∃ b, spn m = b := ⟨_, rfl⟩
  rw [hla] at ha
  rw [hlb] at hb
  have HLA := Lib.hid hla
  have HLB := Lib.hid hlb
  clear hla hlb
  have hal := ha.len
  obtain ⟨n, hn⟩ : ∃ n : Nat, n = a.length := ⟨_, rfl⟩
  rw [← hn] at hal
  have HNA := Lib.hid hn
  obtain ⟨k, hk⟩ : ∃ k : Nat, at' % ((n : Int) + 1) = k := Int.eq_ofNat_of_zero_le (Int.emod_nonneg _ (by omega))
  have hkn : k ≤ n := by have := Int.emod_lt_of_pos at' (show 0 < (n : Int) + 1 by omega); omega
  have HSM := Lib.hid (rot_same ha k (d := at' % 40) (by omega))
  have HA := Lib.hid ha
  have HB := Lib.hid hb
  clear ha hb hn
  have hd0 : (n : Int) + 1 ≠ 0 := by omega
  go_enter Try.func11, Try.ntmps11
  go_wp2_with (go_at_call 12; fail)
  refine HS.out.mono ?_
  rintro e w1 ⟨v1, rfl, hv1, hz1, K1⟩
  rw [HLA.out] at hv1 hz1
  have HVa1 := Lib.hid hv1
  have HZ1 := Lib.hid hz1
  have HK1 := Lib.hid K1
  clear hv1 K1 hz1
  go_wp2_with (go_at_call 12; fail)
  refine (HS2.out w1 HK1.out).mono ?_
  rintro e w2 ⟨v2, rfl, hv2, -, K2⟩
  rw [HLB.out] at hv2
  have HVa2 := Lib.hid (HVa1.out.same K2)
  have HVb2 := Lib.hid hv2
  have HK2 := Lib.hid (HK1.out.trans K2 (fun _ _ h => h))
  clear hv2 K2 HVa1
  obtain ⟨pa, ca, rfl⟩ := HVa2.out.len
  rw [← HNA.out]
  obtain ⟨rl, hrl⟩ : ∃ rl, a.drop k ++ a.take k = rl := ⟨_, rfl⟩
  rw [hrl] at HSM
  have HRL : Hid (rl.length = n) := Lib.hid (by rw [← hrl, List.length_append, List.length_drop, List.length_take]; have := HNA.out; omega)
  have HRL2 := Lib.hid hrl
  clear hrl
  go_upto_region 4 with fail
  rw [hk]
  go_cut [45, 46, 47] from 38 to 47 (fun s45 s46 s47 wx => ∃ p c, s45 = .slice p n c ∧ s46 = .int .i64 n ∧ s47 = .int .i64 0 ∧ Prs wx s45 rl ∧ Kept (fun _ => False) w2 wx)
  case first =>
    have HCC : Hid (∀ W D c, TwoL W D [a.drop k, a.take k] → Calls Try.prog 34 #[.slice (some ⟨D, 0, none⟩) 2 c] W (CatPost [a.drop k, a.take k] W)) := Lib.hid fun W D c h => concat_c h rfl (fun j => by
      have h1 : (a.drop k).length ≤ 20 := by rw [List.length_drop]; have := HNA.out; omega
      have h2 : (a.take k).length ≤ 20 := by rw [List.length_take]; have := HNA.out; omega
      match j with
      | 0 => simp
      | 1 => simp only [List.take_succ_cons, List.take_zero, List.flatten_cons, List.flatten_nil, List.append_nil]; omega
      | j + 2 => simp only [List.take_succ_cons, List.take_nil, List.flatten_cons, List.flatten_nil, List.append_nil, List.length_append]; omega)
    have HFL : Hid ([a.drop k, a.take k].flatten = rl) := Lib.hid (by simpa using HRL2.out)
    rcases HZ1.out with ⟨hv, hz0⟩ | ⟨ga, ca', hv, hca1, hca2⟩
    · rw [← HNA.out] at hv hz0
      injection hv with e1 e2 e3
      subst e1 e3 hz0
      obtain rfl : k = 0 := by omega
      have HNIL : Hid (a = []) := Lib.hid (List.eq_nil_of_length_eq_zero HNA.out.symm)
      have HTL : Hid (TwoL ((w2.alloc (.cells #[.slice none 0 0, .slice none 0 0] 23)).drew) w2.heap.size [a.drop 0, a.take 0]) := Lib.hid ((TwoL.new 23 (by rw [HNIL.out]; exact Prs.nil _ _ _) (by rw [HNIL.out]; exact Prs.nil _ _ _) Nz.nil Nz.nil).same ((Kept.refl _ _).drew))
      have HKA : Hid (Kept (fun _ => False) w2 ((w2.alloc (.cells #[.slice none 0 0, .slice none 0 0] 23)).drew)) := Lib.hid ((Kept.refl _ _).alloc _).drew
      clear hk
      go_region_with (go_at_call 34; refine (HCC.out _ _ _ HTL.out).mono ?_; rintro e wy ⟨vr, rfl, hvr, -, -, Kr⟩; rw [HFL.out] at hvr; have HVR := Lib.hid hvr; have HKR := Lib.hid (HKA.out.trans Kr (fun _ _ h => h)); obtain ⟨pr, cr, hvv⟩ := hvr.len; rw [HRL.out] at hvv; subst hvv; clear hvr Kr)
      all_goals
        go_wp2_with fail
        go_meet
        exact ⟨pr, cr, rfl, rfl, rfl, HVR.out, HKR.out⟩
    · rw [← HNA.out] at hca1
      injection hv with e1 e2 e3
      subst e1 e3
      have HVa3 : Hid (Prs w2 (.slice (some ⟨ga, 0, none⟩) a.length ca) a) := Lib.hid HVa2.out
      have HT2 := Lib.hid (HVa3.out.takek (k := k) (c := ca) (by have := HNA.out; omega))
      have hca3 : ca ≤ 9223372036854775807 := hca2
      by_cases hkc : k < ca
      · have HT1 := Lib.hid (HVa3.out.dropk (k := k) (n := n - k) (c := ca - k) (off := k * 2) (by rw [HNA.out]) (fun _ => rfl))
        have HTL : Hid (TwoL ((w2.alloc (.cells #[.slice (some ⟨ga, k * 2, none⟩) (n - k) (ca - k), .slice (some ⟨ga, 0, none⟩) k ca] 23)).drew) w2.heap.size [a.drop k, a.take k]) := Lib.hid ((TwoL.new 23 HT1.out HT2.out (Nz.some _ _ _) (Nz.some _ _ _)).same ((Kept.refl _ _).drew))
        have HKA : Hid (Kept (fun _ => False) w2 ((w2.alloc (.cells #[.slice (some ⟨ga, k * 2, none⟩) (n - k) (ca - k), .slice (some ⟨ga, 0, none⟩) k ca] 23)).drew)) := Lib.hid ((Kept.refl _ _).alloc _).drew
        clear hk
        go_region_with (go_at_call 34; refine (HCC.out _ _ _ HTL.out).mono ?_; rintro e wy ⟨vr, rfl, hvr, -, -, Kr⟩; rw [HFL.out] at hvr; have HVR := Lib.hid hvr; have HKR := Lib.hid (HKA.out.trans Kr (fun _ _ h => h)); obtain ⟨pr, cr, hvv⟩ := hvr.len; rw [HRL.out] at hvv; subst hvv; clear hvr Kr)
        all_goals
          go_wp2_with fail
          go_meet
          exact ⟨pr, cr, rfl, rfl, rfl, HVR.out, HKR.out⟩
      · have hkc2 : k = ca := by omega
        have hnc2 : n = ca := by omega
        subst hkc2 hnc2
        have HT1 := Lib.hid (HVa3.out.dropk (k := n) (n := 0) (c := 0) (off := 0) (by have := HNA.out; omega) (fun h => by have := HNA.out; omega))
        have HTL : Hid (TwoL ((w2.alloc (.cells #[.slice (some ⟨ga, 0, none⟩) 0 0, .slice (some ⟨ga, 0, none⟩) n n] 23)).drew) w2.heap.size [a.drop n, a.take n]) := Lib.hid ((TwoL.new 23 HT1.out HT2.out (Nz.some _ _ _) (Nz.some _ _ _)).same ((Kept.refl _ _).drew))
        have HKA : Hid (Kept (fun _ => False) w2 ((w2.alloc (.cells #[.slice (some ⟨ga, 0, none⟩) 0 0, .slice (some ⟨ga, 0, none⟩) n n] 23)).drew)) := Lib.hid ((Kept.refl _ _).alloc _).drew
        clear hk
        go_region_with (go_at_call 34; refine (HCC.out _ _ _ HTL.out).mono ?_; rintro e wy ⟨vr, rfl, hvr, -, -, Kr⟩; rw [HFL.out] at hvr; have HVR := Lib.hid hvr; have HKR := Lib.hid (HKA.out.trans Kr (fun _ _ h => h)); obtain ⟨pr, cr, hvv⟩ := hvr.len; rw [HRL.out] at hvv; subst hvv; clear hvr Kr)
        all_goals
          go_wp2_with fail
          go_meet
          exact ⟨pr, cr, rfl, rfl, rfl, HVR.out, HKR.out⟩
  case rest =>
    obtain ⟨pr, cr, rfl, rfl, rfl, hvr, hKr⟩ := hcut
    have HVR := Lib.hid hvr
    have HKC := Lib.hid (HK2.out.trans hKr (fun _ _ h => h))
    have HVa3 := Lib.hid (HVa2.out.same hKr)
    have HVb3 := Lib.hid (HVb2.out.same hKr)
    have HPS := Lib.hid (PS.start wc)
    have HRB : Hid (∀ s ∈ rl, (0 ≤ s.1 ∧ s.1 ≤ s.2) ∧ s.2 ≤ 199) := Lib.hid fun s hs => HA.out.bd s (by
      rw [← HRL2.out] at hs
      rcases List.mem_append.1 hs with hs | hs
      · exact List.mem_of_mem_drop hs
      · exact List.mem_of_mem_take hs)
    clear hvr hKr HVa2 HVb2 HK2 HK1 HS HS2 HZ1 hk hkn HRL2
    obtain ⟨d, hd⟩ : ∃ d, at' % 40 = d := ⟨_, rfl⟩
    have hd2 : 0 ≤ d ∧ d < 40 := by omega
    rw [hd] at HSM
    go_wp2
    go_loopw [10, 47] (fun s i wr => ∃ j : Nat, j ≤ n ∧ i = .int .i64 j ∧ PS wc wr s (cuts d rl j).length (pc (cuts d rl j))) (fun _ i _ => match i with | .int _ x => (n - x).toNat | _ => 0)
    case atStart => exact ⟨0, Nat.zero_le _, rfl, HPS.out⟩
    case round =>
      obtain ⟨j, hj, rfl, hp⟩ := hrel
      have HPP := Lib.hid hp
      clear hp HPS
      by_cases hlt : j < n
      · have hjl : j < rl.length := by have := HRL.out; omega
        obtain ⟨b0, off, cap', hv, hb, hcell⟩ := (HVR.out.same HPP.out.2.2).pos (by omega)
        rw [HRL.out] at hv
        injection hv with e1 e2 e3
        subst e1 e3
        have c0 := (Prs.at hcell hjl).1
        have c1 := (Prs.at hcell hjl).2
        have hx := HRB.out rl[j] (List.getElem_mem hjl)
        have HST := Lib.hid (cuts_step d hjl)
        clear hcell
        generalize rl[j] = x at c0 c1 hx HST
        obtain ⟨x0, x1⟩ := x
        simp only at c0 c1 hx
        obtain ⟨⟨hx1, hx2⟩, hx3⟩ := hx
        have HC1 : Hid (cut1 d j (x0, x1) = if j % 2 = 0 ∧ x0 + d < x1 then [(x0 + d + 1, x1), (x0, x0 + d)] else [(x0, x1)]) := Lib.hid rfl
        have HLC : Hid ((cuts d rl j).length ≤ 40) := Lib.hid (by have := cuts_len d rl j; omega)
        have HPA : Hid (PS wc (wr.alloc (.cells #[.int .i64 x0, .int .i64 x1] 42)) u10 (cuts d rl j).length (pc (cuts d rl j))) := Lib.hid (HPP.out.step (HPP.out.1.alloc _) (((Kept.refl _ wr).alloc _)))
        obtain ⟨cl, hcl⟩ : ∃ cl, (cuts d rl j).length = cl := ⟨_, rfl⟩
        rw [hcl] at HPA HLC
        have HCL := Lib.hid hcl
        clear hcl
        have HB1 : Hid (cl + 1 ≤ maxLen ∧ (cl + 1) * 16 ≤ 140737488355328 ∧ cl + 2 ≤ maxLen ∧ (cl + 2) * 16 ≤ 140737488355328) := Lib.hid (by have := HLC.out; unfold maxLen; omega)
        have HSZ : Hid (.slice (some ⟨wr.heap.size + 1, 0, none⟩) 2 2 = Value.slice (some ⟨(wr.alloc (.cells #[.int .i64 x0, .int .i64 x1] 42)).heap.size, 0, none⟩) 2 2 ∧ .slice (some ⟨wr.heap.size + 1, 0, none⟩) 1 1 = Value.slice (some ⟨(wr.alloc (.cells #[.int .i64 x0, .int .i64 x1] 42)).heap.size, 0, none⟩) 1 1) := Lib.hid (by simp)
        have HON2 : Hid (∀ u ∈ [Value.int .i64 (x0 + d + 1), .int .i64 x1, .int .i64 x0, .int .i64 (x0 + d)], u.oneCell' = true) := Lib.hid (by intro u hu; simp at hu; rcases hu with rfl | rfl | rfl | rfl <;> rfl)
        have HON1 : Hid (∀ u ∈ [Value.int .i64 x0, .int .i64 x1], u.oneCell' = true) := Lib.hid (by intro u hu; simp at hu; rcases hu with rfl | rfl <;> rfl)
        have hmod : ((j : Int) % 2 = 0) ↔ j % 2 = 0 := by omega
        have ELSE : Hid (∀ g c w5, ¬ (j % 2 = 0 ∧ x0 + d < x1) → w5.ownsRow wc.heap.size 42 2 (.slice (some ⟨g, 0, none⟩) (cl + 1) c) (cl + 1) (pc (cuts d rl j) ++ [.int .i64 x0, .int .i64 x1]) → Kept (fun b => u10.ownBlock = some b) (wr.alloc (.cells #[.int .i64 x0, .int .i64 x1] 42)) w5 → PS wc w5 (.slice (some ⟨g, 0, none⟩) (cl + 1) c) (cuts d rl (j + 1)).length (pc (cuts d rl (j + 1)))) := Lib.hid fun g c w5 hn ho K => by
          rw [HST.out, HC1.out, if_neg hn, List.length_append, HCL.out, pc_append]
          exact HPA.out.step ho K
        have THEN : Hid (∀ g c w5, (j % 2 = 0 ∧ x0 + d < x1) → w5.ownsRow wc.heap.size 42 2 (.slice (some ⟨g, 0, none⟩) (cl + 2) c) (cl + 2) (pc (cuts d rl j) ++ [.int .i64 (x0 + d + 1), .int .i64 x1, .int .i64 x0, .int .i64 (x0 + d)]) → Kept (fun b => u10.ownBlock = some b) (wr.alloc (.cells #[.int .i64 x0, .int .i64 x1] 42)) w5 → PS wc w5 (.slice (some ⟨g, 0, none⟩) (cl + 2) c) (cuts d rl (j + 1)).length (pc (cuts d rl (j + 1)))) := Lib.hid fun g c w5 hn ho K => by
          rw [HST.out, HC1.out, if_pos hn, List.length_append, HCL.out, pc_append]
          exact HPA.out.step ho K
        by_cases hm : j % 2 = 0
        · have hm2 : (j : Int) % 2 = 0 := by omega
          by_cases hc : x0 + d < x1
          · go_wp2_with (at_builtin; go_loud (refine wpList_appN el23 rfl (.tmp 67) (.tmp 77) rfl wc.heap.size u10 cl 2 (pc (cuts d rl j)) rfl HPA.out.1 HSZ.out.1 rfl (by omega) HON2.out HB1.out.2.2.1 HB1.out.2.2.2 HPA.out.2.1 ?_; rintro g c w5 hown5 K5 -; have HP5 := Lib.hid (THEN.out g c w5 ⟨hm, hc⟩ hown5 K5); clear hown5 K5))
            go_roundw
            case rel => exact ⟨j + 1, by omega, by go_num, HP5.out⟩
            case measure => simp; omega
          · go_wp2_with (at_builtin; go_loud (refine wpList_app2 el23 rfl (.tmp 79) (.tmp 81) rfl wc.heap.size u10 cl (pc (cuts d rl j)) rfl HPA.out.1 HSZ.out.2 rfl HON1.out HB1.out.1 HB1.out.2.1 HPA.out.2.1 ?_; rintro g c w5 hown5 K5 -; have HP5 := Lib.hid (ELSE.out g c w5 (fun q => hc q.2) hown5 K5); clear hown5 K5))
            go_roundw
            case rel => exact ⟨j + 1, by omega, by go_num, HP5.out⟩
            case measure => simp; omega
        · have hm2 : ¬ (j : Int) % 2 = 0 := by omega
          have hm3 : (j : Int) % 2 = 1 := by omega
          go_wp2_with (at_builtin; go_loud (refine wpList_app2 el23 rfl (.tmp 79) (.tmp 81) rfl wc.heap.size u10 cl (pc (cuts d rl j)) rfl HPA.out.1 HSZ.out.2 rfl HON1.out HB1.out.1 HB1.out.2.1 HPA.out.2.1 ?_; rintro g c w5 hown5 K5 -; have HP5 := Lib.hid (ELSE.out g c w5 (fun q => hm q.1) hown5 K5); clear hown5 K5))
          go_roundw
          case rel => exact ⟨j + 1, by omega, by go_num, HP5.out⟩
          case measure => simp; omega
      · obtain rfl : n = j := by omega
        have HCC : Hid (Prs wr u10 (cuts d rl n)) := Lib.hid (Prs.of_own HPP.out.1)
        rw [HRL.out] at HSM
        obtain ⟨cc, hcc⟩ : ∃ cc, cuts d rl n = cc := ⟨_, rfl⟩
        rw [hcc] at HCC HSM
        clear hcc
        obtain ⟨o1, o2, o3, o4, o5, o6, o7, o8⟩ := order_plain HA.out HB.out HSM.out
        have HK1 := Lib.hid (HKC.out.trans HPP.out.2.2 (fun _ _ h => h))
        have HVa1 := Lib.hid (HVa3.out.same HPP.out.2.2)
        have HVb1 := Lib.hid (HVb3.out.same HPP.out.2.2)
        have HVc1 := Lib.hid HCC.out
        have HE1 : Hid (err2 a [] = 0) := Lib.hid (err2_200 HA.out sp200_nil)
        have HE2 : Hid (err2 a b = 0) := Lib.hid (err2_200 HA.out HB.out)
        have HO1 := Lib.hid o1
        have HO2 := Lib.hid o2
        have HO3 := Lib.hid o3
        have HO4 := Lib.hid o4
        have HO5 := Lib.hid o5
        have HO6 := Lib.hid o6
        have HO7 := Lib.hid o7
        have HO8 : Hid ((Bk.rres wOr a []).length ≤ n) := Lib.hid (by rw [HNA.out]; exact o8)
        have HLN : Hid ((Bk.rres wOr a []).length ≤ 40 ∧ (Bk.rres wOr a b).length ≤ 40 ∧ (Bk.rres wAnd a b).length ≤ 40) := Lib.hid ⟨(rres_200 rfl HA.out sp200_nil).2.2.1, (rres_200 rfl HA.out HB.out).2.2.1, (rres_200 rfl HA.out HB.out).2.2.1⟩
        have HL : Hid ((a.length : Int) ≤ 9223372036854775807 ∧ (b.length : Int) ≤ 9223372036854775807 ∧ (cc.length : Int) ≤ 9223372036854775807 ∧ ((Bk.rres wOr a []).length : Int) ≤ 9223372036854775807) := Lib.hid (by have := HA.out.len; have := HB.out.len; have := HSM.out.len; have := HLN.out.1; omega)
        clear o1 o2 o3 o4 o5 o6 o7 o8 HCC HPP HVa3 HVb3 HKC HVR
        rw [← HNA.out] at HVa1
        go_wp2_with (go_at_call 23; fail)
        refine (normal_c HVa1.out HL.out.1).mono ?_
        rintro e y2 ⟨vPn, rfl, hv, -, K2⟩
        rw [HE1.out, if_pos rfl] at hv
        rw [HE1.out]
        have HPn2 := Lib.hid hv
        have HK2 := Lib.hid (HK1.out.trans K2 (fun _ _ h => h))
        have HVa2 := Lib.hid (HVa1.out.same K2)
        have HVb2 := Lib.hid (HVb1.out.same K2)
        have HVc2 := Lib.hid (HVc1.out.same K2)
        clear hv K2 HVa1 HVb1 HVc1
        obtain ⟨pn, cn, rfl⟩ := HPn2.out.len
        go_wp2_with (go_at_call 23; fail)
        refine (normal_c HVc2.out HL.out.2.2.1).mono ?_
        rintro e y3 ⟨vPo, rfl, hv, -, K3⟩
        rw [HO5.out, if_pos rfl] at hv
        rw [HO5.out]
        rw [HO1.out] at hv
        have HPo3 := Lib.hid hv
        have HK3 := Lib.hid (HK2.out.trans K3 (fun _ _ h => h))
        have HVa3 := Lib.hid (HVa2.out.same K3)
        have HVb3 := Lib.hid (HVb2.out.same K3)
        have HVc3 := Lib.hid (HVc2.out.same K3)
        have HPn3 := Lib.hid (HPn2.out.same K3)
        clear hv K3 HVa2 HVb2 HVc2 HPn2
        go_wp2_with (go_at_call 23; fail)
        refine (normal_c HPn3.out HL.out.2.2.2).mono ?_
        rintro e y4 ⟨vPg, rfl, hv, -, K4⟩
        rw [HO6.out, if_pos rfl] at hv
        rw [HO6.out]
        rw [HO2.out] at hv
        have HPg4 := Lib.hid hv
        have HK4 := Lib.hid (HK3.out.trans K4 (fun _ _ h => h))
        have HVa4 := Lib.hid (HVa3.out.same K4)
        have HVb4 := Lib.hid (HVb3.out.same K4)
        have HVc4 := Lib.hid (HVc3.out.same K4)
        have HPn4 := Lib.hid (HPn3.out.same K4)
        have HPo4 := Lib.hid (HPo3.out.same K4)
        clear hv K4 HVa3 HVb3 HVc3 HPn3 HPo3
        go_wp2_with (go_at_call 13; fail)
        refine (op13_c HVa4.out HVb4.out HL.out.1 HL.out.2.1).mono ?_
        rintro e y5 ⟨vPu, rfl, hv, -, K5⟩
        rw [HE2.out, if_pos rfl] at hv
        rw [HE2.out]
        have HPu5 := Lib.hid hv
        have HK5 := Lib.hid (HK4.out.trans K5 (fun _ _ h => h))
        have HVa5 := Lib.hid (HVa4.out.same K5)
        have HVb5 := Lib.hid (HVb4.out.same K5)
        have HVc5 := Lib.hid (HVc4.out.same K5)
        have HPn5 := Lib.hid (HPn4.out.same K5)
        have HPo5 := Lib.hid (HPo4.out.same K5)
        have HPg5 := Lib.hid (HPg4.out.same K5)
        clear hv K5 HVa4 HVb4 HVc4 HPn4 HPo4 HPg4
        go_wp2_with (go_at_call 13; fail)
        refine (op13_c HVb5.out HVc5.out HL.out.2.1 HL.out.2.2.1).mono ?_
        rintro e y6 ⟨vPv, rfl, hv, -, K6⟩
        rw [HO7.out, if_pos rfl] at hv
        rw [HO7.out]
        rw [HO3.out] at hv
        have HPv6 := Lib.hid hv
        have HK6 := Lib.hid (HK5.out.trans K6 (fun _ _ h => h))
        have HVa6 := Lib.hid (HVa5.out.same K6)
        have HVb6 := Lib.hid (HVb5.out.same K6)
        have HVc6 := Lib.hid (HVc5.out.same K6)
        have HPn6 := Lib.hid (HPn5.out.same K6)
        have HPo6 := Lib.hid (HPo5.out.same K6)
        have HPg6 := Lib.hid (HPg5.out.same K6)
        have HPu6 := Lib.hid (HPu5.out.same K6)
        clear hv K6 HVa5 HVb5 HVc5 HPn5 HPo5 HPg5 HPu5
        go_wp2_with (go_at_call 14; fail)
        refine (op14_c HVa6.out HVb6.out HL.out.1 HL.out.2.1).mono ?_
        rintro e y7 ⟨vPx, rfl, hv, -, K7⟩
        rw [HE2.out, if_pos rfl] at hv
        rw [HE2.out]
        have HPx7 := Lib.hid hv
        have HK7 := Lib.hid (HK6.out.trans K7 (fun _ _ h => h))
        have HVa7 := Lib.hid (HVa6.out.same K7)
        have HVb7 := Lib.hid (HVb6.out.same K7)
        have HVc7 := Lib.hid (HVc6.out.same K7)
        have HPn7 := Lib.hid (HPn6.out.same K7)
        have HPo7 := Lib.hid (HPo6.out.same K7)
        have HPg7 := Lib.hid (HPg6.out.same K7)
        have HPu7 := Lib.hid (HPu6.out.same K7)
        have HPv7 := Lib.hid (HPv6.out.same K7)
        clear hv K7 HVa6 HVb6 HVc6 HPn6 HPo6 HPg6 HPu6 HPv6
        go_wp2_with (go_at_call 14; fail)
        refine (op14_c HVb7.out HVc7.out HL.out.2.1 HL.out.2.2.1).mono ?_
        rintro e y8 ⟨vPy, rfl, hv, -, K8⟩
        rw [HO7.out, if_pos rfl] at hv
        rw [HO7.out]
        rw [HO4.out] at hv
        have HPy8 := Lib.hid hv
        have HK8 := Lib.hid (HK7.out.trans K8 (fun _ _ h => h))
        have HVa8 := Lib.hid (HVa7.out.same K8)
        have HVb8 := Lib.hid (HVb7.out.same K8)
        have HVc8 := Lib.hid (HVc7.out.same K8)
        have HPn8 := Lib.hid (HPn7.out.same K8)
        have HPo8 := Lib.hid (HPo7.out.same K8)
        have HPg8 := Lib.hid (HPg7.out.same K8)
        have HPu8 := Lib.hid (HPu7.out.same K8)
        have HPv8 := Lib.hid (HPv7.out.same K8)
        have HPx8 := Lib.hid (HPx7.out.same K8)
        clear hv K8 HVa7 HVb7 HVc7 HPn7 HPo7 HPg7 HPu7 HPv7 HPx7
        go_wp2_with (go_at_call 25; fail)
        refine (equal_c HPn8.out HPo8.out (by have := HLN.out; omega) (by have := HLN.out; omega)).mono ?_
        rintro e y9 ⟨rfl, K9⟩
        rw [decide_eq_true rfl]
        have HK9 := Lib.hid (HK8.out.trans K9 (fun _ _ h => h))
        have HPn9 := Lib.hid (HPn8.out.same K9)
        have HPg9 := Lib.hid (HPg8.out.same K9)
        have HPu9 := Lib.hid (HPu8.out.same K9)
        have HPv9 := Lib.hid (HPv8.out.same K9)
        have HPx9 := Lib.hid (HPx8.out.same K9)
        have HPy9 := Lib.hid (HPy8.out.same K9)
        clear K9 HPn8 HPg8 HPu8 HPv8 HPx8 HPy8
        go_wp2_with (go_at_call 25; fail)
        refine (equal_c HPg9.out HPn9.out (by have := HLN.out; omega) (by have := HLN.out; omega)).mono ?_
        rintro e y10 ⟨rfl, K10⟩
        rw [decide_eq_true rfl]
        have HK10 := Lib.hid (HK9.out.trans K10 (fun _ _ h => h))
        have HPu10 := Lib.hid (HPu9.out.same K10)
        have HPv10 := Lib.hid (HPv9.out.same K10)
        have HPx10 := Lib.hid (HPx9.out.same K10)
        have HPy10 := Lib.hid (HPy9.out.same K10)
        clear K10 HPu9 HPv9 HPx9 HPy9
        have hle : ((Bk.rres wOr a []).length : Int) ≤ (n : Int) := by have := HO8.out; omega
        go_wp2_with (go_at_call 25; fail)
        refine (equal_c HPu10.out HPv10.out (by have := HLN.out; omega) (by have := HLN.out; omega)).mono ?_
        rintro e y11 ⟨rfl, K11⟩
        rw [decide_eq_true rfl]
        have HK11 := Lib.hid (HK10.out.trans K11 (fun _ _ h => h))
        have HPx11 := Lib.hid (HPx10.out.same K11)
        have HPy11 := Lib.hid (HPy10.out.same K11)
        clear K11 HPx10 HPy10
        go_wp2_with (go_at_call 25; fail)
        refine (equal_c HPx11.out HPy11.out (by have := HLN.out; omega) (by have := HLN.out; omega)).mono ?_
        rintro e y12 ⟨rfl, K12⟩
        rw [decide_eq_true rfl]
        have HK12 := Lib.hid (HK11.out.trans K12 (fun _ _ h => h))
        clear K12 
        go_wp2_with (go_at_call 17; refine (works_c _).mono ?_; rintro e ww ⟨rfl, KW⟩)
        go_ret
        exact ⟨rfl, HK12.out.trans KW (fun _ _ h => h)⟩
end Go.Proofs.Ytaedijppbghnaaa
