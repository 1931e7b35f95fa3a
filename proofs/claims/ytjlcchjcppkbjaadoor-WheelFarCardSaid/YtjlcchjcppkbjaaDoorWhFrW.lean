/- WhFrW: texts for the statements of this seat: contracts of functions, walks, plain laws. Conditions: none. -/
import Derived.Test.YtjlcchjcppkbjaaDoorWhAcc
import Derived.Test.YtjlcchjcppkbjaaDoorWhTri
set_option linter.all false
/- WheelFar. -/
namespace Go.Proofs.YtjlcchjcppkbjaaDoor
open Go.RowKit
variable {w w' : World} {F : Nat → Prop}
set_option maxRecDepth 100000 in
set_option maxHeartbeats 1000000 in
theorem wheelFar_w {u : Value} {st : List Int} (hT : Tab w) (now : Int) (hst : IntsK .u16 w u st) (hsm : st.length ≤ maxLen) (hwf : ∀ x ∈ st, 0 ≤ x ∧ x ≤ 65535) : Calls Tryd.prog 3 #[.int .i64 now, u] w fun e w' => e = .returned (.bool true) ∧ Kept (fun _ => False) w w' := by
  have HWK := Lib.hid (works_c hT)
  obtain ⟨p, c, rfl⟩ := hst.len
  by_cases g1 : st.length > 40
  · have d1 : decide ((40 : Int) < (st.length : Int)) = true := by simp; omega
    clear hT hst hwf
    go_enter Tryd.func3, Tryd.ntmps3
    go_wp2_with (go_at_call 13; refine HWK.out.mono ?_; rintro e w' ⟨rfl, K⟩; have HK := Lib.hid K; clear K)
    go_ret
    exact ⟨rfl, HK.out⟩
  have d1 : decide ((40 : Int) < (st.length : Int)) = false := by simp; omega
  by_cases g2 : now < 0
  · clear hT hst hwf
    go_enter Tryd.func3, Tryd.ntmps3
    go_wp2_with (go_at_call 13; refine HWK.out.mono ?_; rintro e w' ⟨rfl, K⟩; have HK := Lib.hid K; clear K)
    go_ret
    exact ⟨rfl, HK.out⟩
  by_cases g3 : now > 2305843009213693952
  · clear hT hst hwf
    go_enter Tryd.func3, Tryd.ntmps3
    go_wp2_with (go_at_call 13; refine HWK.out.mono ?_; rintro e w' ⟨rfl, K⟩; have HK := Lib.hid K; clear K)
    go_ret
    exact ⟨rfl, HK.out⟩
  have HST := Lib.hid hst
  have HWF := Lib.hid hwf
  have HNW := Lib.hid (l_new (F := fun _ => False) (n := 40) (now := now) hT (Kept.refl _ w) (fun _ h => h.elim) (by omega) (by omega) (by omega) (by omega))
  clear hT hst hwf
  go_enter Tryd.func3, Tryd.ntmps3
  go_wp2_with (go_at_call 14; refine HNW.out.mono ?_; rintro e w1 ⟨B, rfl, h, -⟩; have H1 := Lib.hid h; clear h)
  go_loopw [7, 8] (fun s7 s8 wr => ∃ (k : Nat) (X : Wh) (inn : List Tm), k ≤ st.length ∧ s8 = .int .i64 k ∧ inn.length = k ∧ X.a.sl.length = 40 ∧ X.seq ≤ k ∧ X.now = now ∧ Acc X inn ∧ OwnT wr w1.heap.size s7 inn ∧ w1.heap.size ≤ wr.heap.size ∧ Wl w wr (fun b => s7.ownBlock = some b) B X) (fun _ s8 _ => st.length - (intOf s8).toNat)
  case atStart => exact ⟨0, Wh.new 40 now, [], Nat.zero_le _, rfl, rfl, by simp [Wh.new, AA.empty], Int.le_refl _, rfl, Acc.nil rfl, OwnT.nil _ _, Nat.le_refl _, H1.out.mono fun b q => by simp [Value.ownBlock] at q⟩
  case round =>
    obtain ⟨k, X, inn, hk, rfl, hin, hsl, hsq, hxn, hacc, hown, hsz1, hW⟩ := hrel
    subst hin
    have HACC := Lib.hid hacc
    have HOW := Lib.hid hown
    have HW := Lib.hid hW
    have HSZ1 := Lib.hid hsz1
    clear hsz1
    have HX := Lib.hid (And.intro hsl (And.intro hsq hxn))
    obtain ⟨p7, c7, rfl⟩ := hown.sl
    clear hacc hown hW hsl hsq hxn
    by_cases hlt : inn.length < st.length
    · obtain ⟨r, hs⟩ : ∃ r, st[inn.length]? = some r := ⟨_, List.getElem?_eq_getElem hlt⟩
      obtain ⟨b, off, c', hv, bl, hcells⟩ := (HST.out.same HW.out.kept0).pos (by omega)
      have f0 := hcells inn.length r hs
      injection hv with hv hvn hc
      clear hvn hcells
      subst hv hc
      obtain ⟨r0, r1⟩ := HWF.out r (List.mem_of_getElem? hs)
      obtain ⟨q1, q2, q3, q4, q5, q6⟩ := farD_rng r0 r1
      have j1 : (0 : Int) ≤ (inn.length : Int) := by omega
      have j2 : (inn.length : Int) < (st.length : Int) := by omega
      clear hs
      go_wp2_with fail
      go_quiet (fail)
      obtain ⟨at_, hat⟩ : ∃ a, wrap64 (now + max 1 (wrap64 (wrap64 (2 ^ (r % 40).toNat + wrap64 ((IntKind.u16.wrap (r.tdiv 40)).tmod 100)) - 50))) = a := ⟨_, rfl⟩
      have hfa := far_at (now := now) (by omega) (by omega) r0 r1
      rw [hat] at hfa ⊢
      obtain ⟨w2, hw2⟩ : ∃ w2, wr.drewN nq = w2 := ⟨_, rfl⟩
      have K2 : Kept (fun _ => False) wr w2 := by rw [← hw2]; exact (Kept.refl _ _).drewN nq
      have H2 := Lib.hid (HW.out.same K2)
      have HO2 := Lib.hid (HOW.out.same K2)
      have hll := HACC.out.len
      have hnx := HX.out.2.2
      have hsx := HX.out.1
      have hN : NEVER = 4611686018427387904 := rfl
      rcases add_four HW.out.ok (by have := HX.out.2.1; omega) at_ (inn.length : Int) with ⟨a1, -⟩ | ⟨-, -, a1, -⟩ | ⟨-, -, a1, -⟩ | ⟨-, -, -, X', hd, hadd, okX', n', s', l', -, P, -⟩
      · omega
      · omega
      · omega
      have HADD := Lib.hid hadd
      have HX' : Hid (X'.a.sl.length = 40 ∧ X'.seq ≤ (inn.length + 1 : Nat) ∧ X'.now = now ∧ Acc X' (inn ++ [⟨at_, inn.length, hd, X.seq + 1⟩])) := Lib.hid ⟨by rw [P.size]; exact hsx, by rw [s']; have := HX.out.2.1; omega, by rw [n', hnx], HACC.out.add HW.out.ok rfl l'⟩
      have HSQ : Hid (X.seq ≤ 1000000000) := Lib.hid (by have := HX.out.2.1; omega)
      have HSZ : Hid (w1.heap.size ≤ w2.heap.size ∧ inn.length ≤ 1000) := Lib.hid ⟨Nat.le_trans HSZ1.out K2.size, by omega⟩
      rw [hw2]
      clear K2 hw2 hat hfa hll hnx hsx hN hadd n' s' l' P okX' f0 bl q1 q2 q3 q4 q5 q6 r0 r1 HW HOW HACC HX
      go_wp2_with fail
      refine (l_add H2.out HSQ.out HADD.out).mono ?_
      rintro e w3 ⟨rfl, h, K⟩
      have H3 := Lib.hid h
      have HO3 := Lib.hid (HO2.out.kept K (fun b _ q s => s q))
      have HZ3 : Hid (w1.heap.size ≤ w3.heap.size) := Lib.hid (Nat.le_trans HSZ.out.1 K.size)
      have HLO : Hid (∀ b, (Value.slice p7 inn.length c7).ownBlock = some b → w.heap.size ≤ b) := Lib.hid fun b q => by
        have h1 := ownsRow_block HO3.out q
        have h2 := H1.out.kept0.size
        omega
      clear h K H2 HO2
      go_wp2_with (at_builtin; go_loud (refine wpList_appN el28 rfl (.tmp 76) (.tmp 81) rfl (news := [.int .i64 at_, .int .i64 inn.length, .int .i64 hd]) w1.heap.size _ inn.length 1 (cellsL tmC inn) rfl HO3.out rfl rfl (by decide) (tmC_one ⟨at_, inn.length, hd, 0⟩) (by unfold maxLen; omega) (by omega) HZ3.out ?_); intro g cap w5 hown5 K5 hor; have HZ5 := Lib.hid (Nat.le_trans HZ3.out K5.size); have H5 := Lib.hid (Wl.grow (G := fun b => (Value.slice (some ⟨g, 0, none⟩) (inn.length + 1) cap).ownBlock = some b) H3.out K5 (fun b q => q) (fun b hb q => by have := HLO.out b q; omega) (fun b q => by injection q with q; simp only at q; subst q; exact ⟨(ownsRow_block hown5 rfl).2, hor⟩)); have HO5 := Lib.hid hown5; clear hown5 K5 hor)
      go_roundw
      case rel =>
        refine ⟨inn.length + 1, X', inn ++ [⟨at_, inn.length, hd, X.seq + 1⟩], by omega, by go_num, by rw [List.length_append, List.length_singleton], HX'.out.1, HX'.out.2.1, HX'.out.2.2.1, HX'.out.2.2.2, ?_, HZ5.out, H5.out⟩
        unfold OwnT
        rw [List.length_append, cellsL_append, cellsL_one]
        exact HO5.out
      case measure => simp [intOf]; omega
    · have hil : inn.length ≤ 40 := by omega
      have HSZ0 := Lib.hid HSZ1.out
      go_wp2_with fail
      go_loopw [7, 83] (fun s7 s83 wr2 => ∃ (k : Nat) (Y : Wh) (acc : List Tm), s83 = .int .i64 k ∧ k + acc.length ≤ 40 ∧ Acc Y acc ∧ OwnT wr2 w1.heap.size s7 acc ∧ w1.heap.size ≤ wr2.heap.size ∧ Wl w wr2 (fun b => s7.ownBlock = some b) B Y) (fun _ s83 _ => 41 - (intOf s83).toNat)
      case atStart => exact ⟨0, X, inn, rfl, by omega, HACC.out, HOW.out, HSZ0.out, HW.out⟩
      case round =>
        clear HACC HOW HW HX HSZ1 HSZ0
        obtain ⟨k, Y, acc, rfl, hka, hacc, hown, hsz, hW⟩ := hrel
        have HACC := Lib.hid hacc
        have HOW := Lib.hid hown
        have HW := Lib.hid hW
        have HSZ := Lib.hid hsz
        obtain ⟨p8, c8, rfl⟩ := hown.sl
        have hcase : Y.l = [] ∨ ∃ x r, Y.l = x :: r := by
          cases Y.l with
          | nil => exact .inl rfl
          | cons x r => exact .inr ⟨x, r, rfl⟩
        have j1 : (0 : Int) ≤ (k : Int) := by omega
        have j2 : (k : Int) < 41 := by omega
        clear hown hW hsz
        rcases hcase with hnil | ⟨x, r, hcons⟩
        · have hz : acc.length = 0 := by rw [← hacc.len, hnil]; rfl
          have HLN := Lib.hid (l_len HW.out)
          rw [hnil] at HLN
          rw [hz]
          clear hacc hz
          go_wp2_with (first | (go_at_call 16; refine HLN.out.mono ?_; rintro e w' ⟨rfl, hww⟩; obtain rfl := hww.symm) | (go_at_call 13; refine (works_c HW.out.tab).mono ?_; rintro e w4 ⟨rfl, K⟩; have HK4 := Lib.hid K; clear K))
          go_ret
          exact ⟨rfl, HW.out.kept0.trans HK4.out (fun _ _ h => h)⟩
        · obtain ⟨k1, k2, -, Va, Vb, ha, hb, hbl, hbn, hd0, hd1, hd2⟩ := next_pop HW.out.ok hcons
          obtain ⟨⟨t0, ht0, hte⟩, hmin⟩ := acc_min hacc HW.out.ok hcons
          obtain ⟨n, hn⟩ : ∃ n, x.at_ = n := ⟨_, rfl⟩
          have hlen := hacc.len
          have hal : 0 < acc.length := by rw [← hlen, hcons]; simp
          have hnow := HW.out.ok.now
          have hN : NEVER = 4611686018427387904 := rfl
          rw [hn] at k1 k2 ha hb hbl hbn hd0 hd1 hd2 hte hmin
          obtain ⟨y, hy⟩ : ∃ y, acc[0]? = some y := ⟨_, List.getElem?_eq_getElem hal⟩
          have hyn := hmin y (List.mem_of_getElem? hy)
          have j3 : 1 ≤ n := by omega
          have j4 : n ≤ 4611686018427387904 := by omega
          have HA := Lib.hid ha
          have HB := Lib.hid hb
          have HMIN := Lib.hid hmin
          have HT0 := Lib.hid (And.intro ht0 hte)
          have HNB : Hid (Acc Vb (acc.filter fun t => decide (n < t.at_))) := Lib.hid (hacc.adv HW.out.ok hbl)
          have HFL : Hid ((acc.filter fun t => decide (n < t.at_)).length + 1 ≤ acc.length) := Lib.hid (by
            have h1 := due_len n Y.l
            have h2 := HNB.out.len
            rw [hbl] at h2
            omega)
          have HSRT := Lib.hid HW.out.ok.sorted
          obtain ⟨b0, off0, c0', hv, ⟨a0, -, -⟩, bl, -⟩ := tm_at HOW.out.rows hy
          injection hv with hv hvn hc
          clear hvn
          subst hv hc
          rw [Nat.zero_mul, Nat.add_zero] at a0
          have dz : ((acc.length : Int) == 0) = false := by simp only [beq_eq_false_iff_ne, ne_eq]; omega
          have i1 : (0 : Int) < (acc.length : Int) := by omega
          clear ha hb hbl hbn hd0 hd1 hd2 ht0 hte hmin hlen hnow hcons hn k1 k2 hN hacc
          go_wp2_with fail
          go_loopw [12, 13] (fun s12 s13 wr3 => ∃ (i : Nat) (m : Int), i ≤ acc.length ∧ s13 = .int .i64 i ∧ s12 = .int .i64 m ∧ n ≤ m ∧ (∀ (j : Nat) (t : Tm), j < i → acc[j]? = some t → m ≤ t.at_) ∧ wr3 = wr) (fun _ s13 _ => acc.length - (intOf s13).toNat)
          case atStart => exact ⟨0, y.at_, Nat.zero_le _, rfl, rfl, hyn, (fun j t h => by omega), rfl⟩
          case round =>
            obtain ⟨i, m, hi, rfl, rfl, hnm, hall, rfl⟩ := hrel
            have HALL := Lib.hid hall
            clear hall
            by_cases hlt2 : i < acc.length
            · obtain ⟨t, ht⟩ : ∃ t, acc[i]? = some t := ⟨_, List.getElem?_eq_getElem hlt2⟩
              obtain ⟨b1, off1, c1', hv, ⟨a1, -, -⟩, -, -⟩ := tm_at HOW.out.rows ht
              injection hv with hv hvn hc
              clear hvn hc
              injection hv with hv
              injection hv with hv1 hv2 _
              subst hv1 hv2
              have i3 : (0 : Int) ≤ (i : Int) := by omega
              have i4 : (i : Int) < (acc.length : Int) := by omega
              have htn := HMIN.out t (List.mem_of_getElem? ht)
              have HT := Lib.hid ht
              clear ht a0
              have HN : Hid (∀ (j : Nat) (t' : Tm), j < i + 1 → acc[j]? = some t' → min m t.at_ ≤ t'.at_) := Lib.hid fun j t' hj ht' => by
                by_cases e : j = i
                · subst e
                  have h1 := HT.out
                  rw [ht'] at h1
                  injection h1 with h1
                  subst h1
                  omega
                · have := HALL.out j t' (by omega) ht'; omega
              go_wp2_with fail
              go_roundw
              case rel => exact ⟨i + 1, min m t.at_, by omega, by go_num, rfl, by omega, HN.out, trivial⟩
              case measure => simp [intOf]; omega
            · obtain rfl : i = acc.length := by omega
              have hmn : m = n := by
                obtain ⟨q, hq⟩ := List.getElem?_of_mem HT0.out.1
                have := HALL.out q t0 (List.getElem?_eq_some_iff.1 hq).1 hq
                have := HT0.out.2
                omega
              obtain rfl := hmn
              clear hlt2 hnm HALL hi a0
              go_wp2_with fail
              refine (l_advance HW.out HA.out).mono ?_
              rintro e w4 ⟨v4, rfl, ho, h, K⟩
              obtain ⟨p4, c4, rfl⟩ := ho.sl
              have H4 := Lib.hid h
              have HO4 := Lib.hid (HOW.out.kept K (fun b _ q s => s q))
              have HZ4 := Lib.hid (Nat.le_trans HSZ.out K.size)
              clear ho h K
              go_wp2_with fail
              refine (l_advance H4.out HB.out).mono ?_
              rintro e w5 ⟨v5, rfl, ho, h, K⟩
              obtain ⟨p5, c5, rfl⟩ := ho.sl
              rw [List.length_map] at ho h ⊢
              have HOR5 := Lib.hid ho.rows
              have H5 := Lib.hid h
              have HO5 := Lib.hid (HO4.out.kept K (fun b _ q s => s (.inl q)))
              have HZ5 := Lib.hid (Nat.le_trans HZ4.out K.size)
              clear ho h K H4 HO4 HZ4
              go_wp2_with fail
              refine (due_c HSRT.out HACC.out.perm HACC.out.sq HO5.out (by omega) HZ5.out m).mono ?_
              rintro e w6 ⟨v6, v7, rfl, ho6, ho7, -, hfr, K⟩
              have H6 := Lib.hid (Wl.fresh (G := fun b => v7.ownBlock = some b) H5.out K (fun b q => ⟨(ownsRow_block ho7 q).2, (hfr b q).elim (fun q => .inl (.inl (.inl q))) .inr⟩))
              obtain ⟨p6, c6, rfl⟩ := ho6.sl
              obtain ⟨p7', c7', rfl⟩ := ho7.sl
              rw [List.length_map] at ho6 ⊢
              have HOR6 := Lib.hid ho6.rows
              have HO7 := Lib.hid ho7
              have HOR5' := Lib.hid (HOR5.out.same K)
              have HZ6 := Lib.hid (Nat.le_trans HZ5.out K.size)
              have HDL : Hid (((due m Y.l).map Tm.fd).length ≤ 1000000) := Lib.hid (by
                rw [List.length_map]
                have h1 := due_len m Y.l
                have h2 := HACC.out.len
                omega)
              clear ho6 ho7 hfr K H5 HO5 HZ5 HOR5
              go_wp2_with (go_at_call 19; refine (same_t HOR5'.out HOR6.out HDL.out).mono ?_; rintro e w8 ⟨rfl, K⟩; have H8 := Lib.hid (H6.out.same K); have HO8 := Lib.hid (HO7.out.same K); have HZ8 := Lib.hid (Nat.le_trans HZ6.out K.size); clear K)
              have hfl := HFL.out
              go_roundw
              case rel => exact ⟨k + 1, Vb, acc.filter fun t => decide (m < t.at_), by go_num, by omega, HNB.out, HO8.out, HZ8.out, H8.out⟩
              case measure => simp [intOf]; omega
end Go.Proofs.YtjlcchjcppkbjaaDoor
