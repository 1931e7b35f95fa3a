/- WhKpW: texts for the statements of this seat: contracts of functions, walks, plain laws. Conditions: none. -/
import Derived.Test.YtjlcchjcppkbjaaDoorWhDuo
import Derived.Test.YtjlcchjcppkbjaaDoorWhListW
import Derived.Test.YtjlcchjcppkbjaaDoorWhCnsW
set_option linter.all false
/- WheelKeeps. -/
namespace Go.Proofs.YtjlcchjcppkbjaaDoor
open Go.RowKit
variable {w w' w0 : World} {F : Nat → Prop} {B1 B2 : Nat} {W1 W2 : Wh}
/-- Calls that are refused change nothing at all. -/
theorem r_add (h : Wl2 w0 w F B1 B2 W1 W2) (id : Int) : Calls Tryd.prog 15 #[.pointer (some ⟨B1, 0, none⟩), .int .i64 W1.now, .int .i64 id] w fun e w' => e = .returned (.tuple #[.int .i64 0, .int .i64 8]) ∧ w' = w := by
  have hnow := h.ok.now
  have hN : NEVER = 4611686018427387904 := rfl
  obtain ⟨-, k1, k2, ⟨ok, ab, sb, cap, mb, ts, M, hts⟩, -⟩ := h
  exact add_order M W1.now id hnow.1 (by omega) (Int.le_refl _)
theorem r_addArg (h : Wl2 w0 w F B1 B2 W1 W2) (id : Int) : Calls Tryd.prog 15 #[.pointer (some ⟨B1, 0, none⟩), .int .i64 (-1), .int .i64 id] w fun e w' => e = .returned (.tuple #[.int .i64 0, .int .i64 2]) ∧ w' = w := by
  obtain ⟨-, k1, k2, ⟨ok, ab, sb, cap, mb, ts, M, hts⟩, -⟩ := h
  exact add_arg M (-1) id (.inl (by omega))
theorem r_advArg (h : Wl2 w0 w F B1 B2 W1 W2) (lim : Int) (hl : lim < 0 ∨ 4611686018427387904 < lim) : Calls Tryd.prog 17 #[.pointer (some ⟨B1, 0, none⟩), .int .i64 lim] w fun e w' => e = .returned (.tuple #[.slice none 0 0, .int .i64 2]) ∧ w' = w := by
  obtain ⟨-, k1, k2, ⟨ok, ab, sb, cap, mb, ts, M, hts⟩, -⟩ := h
  exact adv_arg M lim hl
theorem r_advOrder (h : Wl2 w0 w F B1 B2 W1 W2) (lim : Int) (h0 : 0 ≤ lim) (h1 : lim ≤ 4611686018427387904) (hl : lim < W1.now) : Calls Tryd.prog 17 #[.pointer (some ⟨B1, 0, none⟩), .int .i64 lim] w fun e w' => e = .returned (.tuple #[.slice none 0 0, .int .i64 8]) ∧ w' = w := by
  obtain ⟨-, k1, k2, ⟨ok, ab, sb, cap, mb, ts, M, hts⟩, -⟩ := h
  exact adv_order M lim h0 h1 hl
/-- One second back. -/
def backEr (now : Int) : Int := if now = 0 then 2 else 8
theorem r_advBack (h : Wl2 w0 w F B1 B2 W1 W2) : Calls Tryd.prog 17 #[.pointer (some ⟨B1, 0, none⟩), .int .i64 (W1.now - 1)] w fun e w' => e = .returned (.tuple #[.slice none 0 0, .int .i64 (backEr W1.now)]) ∧ w' = w := by
  have hnow := h.ok.now
  have hN : NEVER = 4611686018427387904 := rfl
  unfold backEr
  by_cases z : W1.now = 0
  · rw [if_pos z]; exact r_advArg h _ (.inl (by omega))
  · rw [if_neg z]; exact r_advOrder h _ (by omega) (by omega) (by omega)
theorem cancel_low (ok : WOk W1) {h : Int} (hh : h < 4096) : W1.cancel h = (W1, 5) := cancel_none fun x hx e => by have := ok.hlo hx; omega
/-- The cells of a box that holds a step. -/
def BoxPre (b : Nat) (x : Sp) (W : World) : Prop := (W.cell? ⟨b, 1, none⟩ = some (.int .i64 x.at_) ∧ W.cell? ⟨b, 2, none⟩ = some (.int .i64 x.id)) ∧ b < W.heap.size
theorem BoxPre.same {b : Nat} {x : Sp} {W V : World} (h : BoxPre b x W) (K : Kept (fun _ => False) W V) : BoxPre b x V := by
  obtain ⟨⟨h1, h2⟩, l1⟩ := h
  exact ⟨⟨(K.cell (a := ⟨b, 1, none⟩) l1 (fun h => h)).trans h1, (K.cell (a := ⟨b, 2, none⟩) l1 (fun h => h)).trans h2⟩, Nat.lt_of_lt_of_le l1 K.size⟩
theorem adv_out_le (W : Wh) (t : Int) : (W.advance t).2.1.length ≤ W.l.length := by
  unfold Wh.advance
  split
  · exact Nat.zero_le _
  split
  · exact Nat.zero_le _
  · exact (List.takeWhile_sublist _).length_le
/-- What the writes to the returned list want. -/
theorem own_there {w : World} {base : Nat} {v : Value} {l : List Fd} (h : Own w base v l) : ∃ g c, v = .slice g l.length c ∧ (l.length = 0 ∨ ∃ b, g = some ⟨b, 0, none⟩ ∧ base ≤ b ∧ b < w.heap.size ∧ w.there b 0 (2 * l.length)) := by
  have h' := h
  rcases h.2 with ⟨rfl, h0⟩ | ⟨g, cap, cur, rfl, hg, hh, h1, h2, h3, h4⟩
  · exact ⟨none, 0, by rw [h0], .inl h0⟩
  · refine ⟨_, cap, rfl, .inr ⟨g, rfl, hg, (Array.getElem?_eq_some_iff.1 hh).1, fun j hj => ⟨?_, h'.frozenAt _⟩⟩⟩
    rw [Nat.zero_add, World.ownsRow.cellAt h' j (by omega), Option.isSome_iff_ne_none, ne_eq, List.getElem?_eq_none_iff, h'.1]
    omega
set_option maxRecDepth 100000 in
set_option maxHeartbeats 4000000 in
theorem wheelKeeps_w {v : Value} {l : List Sp} (hT : Tab w) (now : Int) (hl : Rows spC 4 w v l) (hm : l.length ≤ maxLen) (hwf : ∀ x ∈ l, x.wf) (x : Sp) : Calls Tryd.prog 8 #[.int .i64 now, v, .agg #[.int .i64 x.d, .int .i64 x.at_, .int .i64 x.id, .int .i64 x.h]] w fun e w' => e = .returned (.bool true) ∧ Kept (fun _ => False) w w' := by
  obtain ⟨p, c, rfl⟩ := hl.len
  obtain ⟨wq, hwq⟩ : ∃ wq, (w.alloc (.cells #[.int .i64 x.d, .int .i64 x.at_, .int .i64 x.id, .int .i64 x.h] 45)) = wq := ⟨_, rfl⟩
  have HKQ : Hid (Kept (fun _ => False) w wq) := Lib.hid (by rw [← hwq]; exact (Kept.refl _ w).alloc _)
  have HPRE : Hid (BoxPre w.heap.size x wq) := Lib.hid (by
    have e1 : ∀ j, wq.cell? ⟨w.heap.size, j, none⟩ = (#[.int .i64 x.d, .int .i64 x.at_, .int .i64 x.id, .int .i64 x.h] : Array Value)[j]? := fun j => by
      rw [← hwq]; exact World.cell?_alloc_at _ _ _ _ rfl
    have hs : wq.heap.size = w.heap.size + 1 := by rw [← hwq]; simp
    exact ⟨⟨e1 1, e1 2⟩, by omega⟩)
  have HTQ := Lib.hid (hT.kept HKQ.out (fun h => h))
  have HWK := Lib.hid (works_c HTQ.out)
  have hlq := hl.same HKQ.out
  by_cases g1 : l.length > 50
  · have d1 : decide ((50 : Int) < (l.length : Int)) = true := by simp; omega
    clear hT hl hwf hlq
    go_enter Tryd.func8, Tryd.ntmps8
    go_wp2_with (go_at_call 13; refine HWK.out.mono ?_; rintro e w' ⟨rfl, K⟩; have HK := Lib.hid K; clear K)
    go_ret
    exact ⟨rfl, HKQ.out.trans HK.out (fun _ _ h => h)⟩
  have d1 : decide ((50 : Int) < (l.length : Int)) = false := by simp; omega
  by_cases g2 : now < 0
  · clear hT hl hwf hlq
    go_enter Tryd.func8, Tryd.ntmps8
    go_wp2_with (go_at_call 13; refine HWK.out.mono ?_; rintro e w' ⟨rfl, K⟩; have HK := Lib.hid K; clear K)
    go_ret
    exact ⟨rfl, HKQ.out.trans HK.out (fun _ _ h => h)⟩
  by_cases g3 : now > 4611686018427387904
  · clear hT hl hwf hlq
    go_enter Tryd.func8, Tryd.ntmps8
    go_wp2_with (go_at_call 13; refine HWK.out.mono ?_; rintro e w' ⟨rfl, K⟩; have HK := Lib.hid K; clear K)
    go_ret
    exact ⟨rfl, HKQ.out.trans HK.out (fun _ _ h => h)⟩
  have HFL := Lib.hid (filled_c (F := fun _ => False) (now := now) HTQ.out hlq (by omega) hwf (by omega) (by omega) (fun _ h => h.elim))
  have HR := Lib.hid (run_new now l (k := 60) (by omega))
  clear hT hl hwf hlq
  generalize (Wh.new 60 now).run l = W at HFL HR
  have HSQ : Hid (W.seq ≤ 1000000000) := Lib.hid (by have := HR.out; omega)
  go_enter Tryd.func8, Tryd.ntmps8
  go_wp2_with (first | (go_at_call 23; refine HFL.out.mono ?_; rintro e w1 ⟨B, rfl, h⟩; have H1 := Lib.hid h; clear h hwq) | (go_at_call 26; refine (d_copy H1.out (fun _ h => h.elim)).mono ?_; rintro e w2 ⟨B2, rfl, h, -⟩; have H2 := Lib.hid h; clear h; obtain ⟨⟨f1, f2⟩, f5⟩ := HPRE.out.same H2.out.kept0))
  have HNW : Hid (∀ m, Calls Tryd.prog 21 #[.pointer (some ⟨B, 0, none⟩)] (w2.drewN m) fun e w' => e = .returned (.int .i64 W.now) ∧ w' = w2.drewN m) := Lib.hid fun m => d_now (H2.out.same ((Kept.refl _ w2).drewN m))
  have HRA : Hid (∀ m, Calls Tryd.prog 15 #[.pointer (some ⟨B, 0, none⟩), .int .i64 W.now, .int .i64 x.id] (w2.drewN m) fun e w' => e = .returned (.tuple #[.int .i64 0, .int .i64 8]) ∧ w' = w2.drewN m) := Lib.hid fun m => r_add (H2.out.same ((Kept.refl _ w2).drewN m)) x.id
  go_quiet (first | (go_at_call 21; exact Calls.quiet_of_same (HNW.out _)) | (go_at_call 15; exact Calls.quiet_of_same (HRA.out _)))
  obtain ⟨w3, hw3⟩ : ∃ w3, w2.drewN nq = w3 := ⟨_, rfl⟩
  have H3 := Lib.hid (H2.out.same (show Kept (fun _ => False) w2 w3 by rw [← hw3]; exact (Kept.refl _ w2).drewN nq))
  rw [hw3]
  clear hw3 HNW HRA f1 f2 f5
  obtain ⟨⟨f1, f2⟩, f5⟩ := HPRE.out.same H3.out.kept0
  have HC1 := Lib.hid (cancel_low H3.out.ok (h := -1) (by omega))
  have HC0 := Lib.hid (cancel_low H3.out.ok (h := 0) (by omega))
  have HBK := Lib.hid (r_advBack H3.out)
  have j1 : 0 ≤ W.now := H3.out.ok.now.1
  have j2 : W.now ≤ 4611686018427387904 := H3.out.ok.now.2
  rcases (show (W.now = 0 ∧ backEr W.now = 2 ∧ decide ((0 : Int) < W.now) = false) ∨ backEr W.now = 8 by
    unfold backEr
    by_cases z : W.now = 0
    · rw [if_pos z]; exact .inl ⟨z, rfl, by simp [z]⟩
    · rw [if_neg z]; exact .inr rfl) with ⟨-, hb, hz⟩ | hb
  · rw [hb] at HBK
    go_wp2_with (go_at_call 15; refine (r_addArg H3.out x.id).mono ?_; rintro e w' ⟨rfl, hww⟩; obtain rfl := hww.symm)
    refine (r_advArg H3.out 4611686018427387905 (.inr (by omega))).mono ?_
    rintro e w' ⟨rfl, hww⟩
    obtain rfl := hww.symm
    go_wp2_with (first | (go_at_call 17; refine HBK.out.mono ?_; rintro e w' ⟨rfl, hww⟩; obtain rfl := hww.symm) | (go_at_call 21; refine (d_now H3.out).mono ?_; rintro e w' ⟨rfl, hww⟩; obtain rfl := hww.symm))
    refine (d_cancel H3.out (by omega) (by omega) HC1.out).mono ?_
    rintro e w4 ⟨rfl, h, -⟩
    have H4 := Lib.hid h
    clear h
    go_wp2_with fail
    refine (d_cancel H4.out (by omega) (by omega) HC0.out).mono ?_
    rintro e w5 ⟨rfl, h, -⟩
    have H5 := Lib.hid h
    clear h f1 f2 f5
    go_wp2_with (go_at_call 24; refine (d_list H5.out).mono ?_; rintro e w6 ⟨v6, rfl, ho, h, K⟩; have H6 := Lib.hid h; have HO6 := Lib.hid ho; clear ho h K)
    obtain ⟨g6, c6, rfl, hth⟩ := own_there HO6.out
    rw [List.length_map] at hth H6 HO6 ⊢
    have hl60 : W.l.length ≤ 60 := HR.out.2
    have HTH := Lib.hid hth
    clear hth HBK HC0 HC1 hz hb j1 j2
    go_loopw [18] (fun s18 wr => ∃ (k : Nat), k ≤ W.l.length ∧ s18 = .int .i64 k ∧ Wl2 wq wr (fun b => False ∨ (Value.slice g6 W.l.length c6).ownBlock = some b) B B2 W W ∧ (W.l.length = 0 ∨ ∃ b, g6 = some ⟨b, 0, none⟩ ∧ wq.heap.size ≤ b ∧ b < wr.heap.size ∧ wr.there b 0 (2 * W.l.length))) (fun s18 _ => W.l.length - (intOf s18).toNat)
    case atStart =>
      have hbs : wq.heap.size ≤ w5.heap.size := H5.out.kept0.size
      refine ⟨0, Nat.zero_le _, rfl, H6.out, ?_⟩
      rcases HTH.out with h | ⟨b, h1, h2, h3, h4⟩
      · exact .inl h
      · exact .inr ⟨b, h1, by omega, h3, h4⟩
    case round =>
      obtain ⟨k, hk, rfl, hW, hT2⟩ := hrel
      have HW := Lib.hid hW
      clear hW
      by_cases hlt : k < W.l.length
      · rcases hT2 with h | ⟨b, rfl, h2, h3, h4⟩
        · omega
        have j3 : (0 : Int) ≤ (k : Int) := by omega
        have j4 : (k : Int) < (W.l.length : Int) := by omega
        have t0 := h4 (k * 2) (by omega)
        have t1 := h4 (k * 2 + 1) (by omega)
        rw [Nat.zero_add] at t0 t1
        obtain ⟨⟨c0, t0⟩, z0⟩ := (show (∃ c0, wr.cell? ⟨b, k * 2, none⟩ = some c0) ∧ _ from ⟨Option.isSome_iff_exists.1 t0.1, t0.2⟩)
        obtain ⟨⟨c1, t1⟩, z1⟩ := (show (∃ c1, wr.cell? ⟨b, k * 2 + 1, none⟩ = some c1) ∧ _ from ⟨Option.isSome_iff_exists.1 t1.1, t1.2⟩)
        have HT4 := Lib.hid h4
        have HB := Lib.hid h2
        clear h4 h2
        go_wp2_with fail
        go_roundw
        case rel =>
          refine ⟨k + 1, by omega, by go_num, ?_, .inr ⟨b, rfl, HB.out, by simpa using h3, World.there_setCells HT4.out b (k * 2) [.int .i64 0, .int .i64 0]⟩⟩
          exact HW.out.writeF (S := fun c => c = b) ((Kept.refl (fun c => c = b) wr).setCells b [.int .i64 0, .int .i64 0] (fun _ => rfl) (k * 2)) (fun c e => .inr (by rw [e]; rfl)) (fun c hc e => by have := HB.out; omega)
        case measure => simp [intOf]; omega
      · obtain rfl : k = W.l.length := by omega
        clear hT2 hlt hk HTH HO6 H6
        obtain ⟨⟨f1, f2⟩, f5⟩ := HPRE.out.same HW.out.kept0
        obtain ⟨W1, hd, er, hadd⟩ : ∃ W1 hd er, W.add x.at_ x.id = (W1, hd, er) := ⟨_, _, _, rfl⟩
        obtain ⟨W2, l2, er2, hadv⟩ : ∃ W2 l2 er2, W1.advance x.at_ = (W2, l2, er2) := ⟨_, _, _, rfl⟩
        have HADD := Lib.hid hadd
        have HADV := Lib.hid hadv
        have HLN : Hid (l2.length ≤ 1000000 ∧ W2.l.length ≤ 1000000) := Lib.hid (by
          have q1 := (add_sl W x.at_ x.id).2.1
          have q2 := (advance_sl W1 x.at_).2
          have q3 : l2.length ≤ W1.l.length := by
            have : l2 = (W1.advance x.at_).2.1 := by rw [hadv]
            rw [this]
            exact adv_out_le _ _
          rw [hadd] at q1
          rw [hadv] at q2
          simp only at q1 q2
          omega)
        clear hadd hadv
        go_wp2_with (first | (go_at_call 15; refine (d_add H7.out.swap HSQ.out HADD.out).mono ?_; rintro e w8 ⟨rfl, h, -⟩; have H8 := Lib.hid h.swap; clear h f1 f2 f5; obtain ⟨⟨f1, f2⟩, f5⟩ := HPRE.out.same H8.out.kept0) | (go_at_call 15; refine (d_add HW.out HSQ.out HADD.out).mono ?_; rintro e w7 ⟨rfl, h, -⟩; have H7 := Lib.hid h; clear h f1 f2 f5; obtain ⟨⟨f1, f2⟩, f5⟩ := HPRE.out.same H7.out.kept0))
        refine (d_advance H8.out HADV.out).mono ?_
        rintro e w9 ⟨v9, rfl, ho, h, -⟩
        obtain ⟨p9, c9, rfl⟩ := ho.sl
        rw [List.length_map] at ho h
        have HO9 := Lib.hid ho
        have H9 := Lib.hid h
        clear h ho f1 f2 f5
        obtain ⟨⟨f1, f2⟩, f5⟩ := HPRE.out.same H9.out.kept0
        go_wp2_with fail
        refine (d_advance H9.out.swap HADV.out).mono ?_
        rintro e w10 ⟨v10, rfl, ho, h, K⟩
        obtain ⟨p10, c10, rfl⟩ := ho.sl
        rw [List.length_map] at ho h
        have HO9' := Lib.hid (Own.rows (HO9.out.kept K (fun b _ q s => s (.inr q))))
        have HO10 := Lib.hid ho.rows
        have H10 := Lib.hid h.swap
        clear h ho K f1 f2 f5
        go_wp2_with (first | (go_at_call 24; refine (d_list H12.out.swap).mono ?_; rintro e w13 ⟨v13, rfl, ho, h, K⟩; obtain ⟨p13, c13, rfl⟩ := ho.sl; rw [List.length_map] at ho h; have HO13 := Lib.hid ho.rows; have HO12' := Lib.hid (HO12.out.same K); have H13 := Lib.hid h.swap; clear ho h K) | (go_at_call 24; refine (d_list H11.out).mono ?_; rintro e w12 ⟨v12, rfl, ho, h, K⟩; obtain ⟨p12, c12, rfl⟩ := ho.sl; rw [List.length_map] at ho h; have HO12 := Lib.hid ho.rows; have H12 := Lib.hid h; clear ho h K) | (go_at_call 19; refine (same_c HO12'.out HO13.out (by rw [List.length_map]; exact HLN.out.2)).mono ?_; rintro e w14 ⟨rfl, K⟩; have H14 := Lib.hid (H13.out.same K); clear K; simp only [decide_true]; have HWK14 := Lib.hid (works_c H14.out.tab)) | (go_at_call 19; refine (same_c HO9'.out HO10.out (by rw [List.length_map]; exact HLN.out.1)).mono ?_; rintro e w11 ⟨rfl, K⟩; have H11 := Lib.hid (H10.out.same K); clear K; simp only [decide_true]) | (go_at_call 21; refine (d_now H14.out).mono ?_; rintro e w' ⟨rfl, hww⟩; obtain rfl := hww.symm) | (go_at_call 21; refine (d_now H14.out.swap).mono ?_; rintro e w' ⟨rfl, hww⟩; obtain rfl := hww.symm) | (go_at_call 13; refine HWK14.out.mono ?_; rintro e w15 ⟨rfl, K⟩; have HK15 := Lib.hid K; clear K))
        go_ret
        exact ⟨rfl, HKQ.out.trans (H14.out.kept0.trans HK15.out (fun _ _ h => h)) (fun _ _ h => h)⟩
  · rw [hb] at HBK
    go_wp2_with (go_at_call 15; refine (r_addArg H3.out x.id).mono ?_; rintro e w' ⟨rfl, hww⟩; obtain rfl := hww.symm)
    refine (r_advArg H3.out 4611686018427387905 (.inr (by omega))).mono ?_
    rintro e w' ⟨rfl, hww⟩
    obtain rfl := hww.symm
    go_wp2_with (first | (go_at_call 17; refine HBK.out.mono ?_; rintro e w' ⟨rfl, hww⟩; obtain rfl := hww.symm) | (go_at_call 21; refine (d_now H3.out).mono ?_; rintro e w' ⟨rfl, hww⟩; obtain rfl := hww.symm))
    refine (d_cancel H3.out (by omega) (by omega) HC1.out).mono ?_
    rintro e w4 ⟨rfl, h, -⟩
    have H4 := Lib.hid h
    clear h
    go_wp2_with fail
    refine (d_cancel H4.out (by omega) (by omega) HC0.out).mono ?_
    rintro e w5 ⟨rfl, h, -⟩
    have H5 := Lib.hid h
    clear h f1 f2 f5
    go_wp2_with (go_at_call 24; refine (d_list H5.out).mono ?_; rintro e w6 ⟨v6, rfl, ho, h, K⟩; have H6 := Lib.hid h; have HO6 := Lib.hid ho; clear ho h K)
    obtain ⟨g6, c6, rfl, hth⟩ := own_there HO6.out
    rw [List.length_map] at hth H6 HO6 ⊢
    have hl60 : W.l.length ≤ 60 := HR.out.2
    have HTH := Lib.hid hth
    clear hth HBK HC0 HC1 hb j1 j2
    go_loopw [18] (fun s18 wr => ∃ (k : Nat), k ≤ W.l.length ∧ s18 = .int .i64 k ∧ Wl2 wq wr (fun b => False ∨ (Value.slice g6 W.l.length c6).ownBlock = some b) B B2 W W ∧ (W.l.length = 0 ∨ ∃ b, g6 = some ⟨b, 0, none⟩ ∧ wq.heap.size ≤ b ∧ b < wr.heap.size ∧ wr.there b 0 (2 * W.l.length))) (fun s18 _ => W.l.length - (intOf s18).toNat)
    case atStart =>
      have hbs : wq.heap.size ≤ w5.heap.size := H5.out.kept0.size
      refine ⟨0, Nat.zero_le _, rfl, H6.out, ?_⟩
      rcases HTH.out with h | ⟨b, h1, h2, h3, h4⟩
      · exact .inl h
      · exact .inr ⟨b, h1, by omega, h3, h4⟩
    case round =>
      obtain ⟨k, hk, rfl, hW, hT2⟩ := hrel
      have HW := Lib.hid hW
      clear hW
      by_cases hlt : k < W.l.length
      · rcases hT2 with h | ⟨b, rfl, h2, h3, h4⟩
        · omega
        have j3 : (0 : Int) ≤ (k : Int) := by omega
        have j4 : (k : Int) < (W.l.length : Int) := by omega
        have t0 := h4 (k * 2) (by omega)
        have t1 := h4 (k * 2 + 1) (by omega)
        rw [Nat.zero_add] at t0 t1
        obtain ⟨⟨c0, t0⟩, z0⟩ := (show (∃ c0, wr.cell? ⟨b, k * 2, none⟩ = some c0) ∧ _ from ⟨Option.isSome_iff_exists.1 t0.1, t0.2⟩)
        obtain ⟨⟨c1, t1⟩, z1⟩ := (show (∃ c1, wr.cell? ⟨b, k * 2 + 1, none⟩ = some c1) ∧ _ from ⟨Option.isSome_iff_exists.1 t1.1, t1.2⟩)
        have HT4 := Lib.hid h4
        have HB := Lib.hid h2
        clear h4 h2
        go_wp2_with fail
        go_roundw
        case rel =>
          refine ⟨k + 1, by omega, by go_num, ?_, .inr ⟨b, rfl, HB.out, by simpa using h3, World.there_setCells HT4.out b (k * 2) [.int .i64 0, .int .i64 0]⟩⟩
          exact HW.out.writeF (S := fun c => c = b) ((Kept.refl (fun c => c = b) wr).setCells b [.int .i64 0, .int .i64 0] (fun _ => rfl) (k * 2)) (fun c e => .inr (by rw [e]; rfl)) (fun c hc e => by have := HB.out; omega)
        case measure => simp [intOf]; omega
      · obtain rfl : k = W.l.length := by omega
        clear hT2 hlt hk HTH HO6 H6
        obtain ⟨⟨f1, f2⟩, f5⟩ := HPRE.out.same HW.out.kept0
        obtain ⟨W1, hd, er, hadd⟩ : ∃ W1 hd er, W.add x.at_ x.id = (W1, hd, er) := ⟨_, _, _, rfl⟩
        obtain ⟨W2, l2, er2, hadv⟩ : ∃ W2 l2 er2, W1.advance x.at_ = (W2, l2, er2) := ⟨_, _, _, rfl⟩
        have HADD := Lib.hid hadd
        have HADV := Lib.hid hadv
        have HLN : Hid (l2.length ≤ 1000000 ∧ W2.l.length ≤ 1000000) := Lib.hid (by
          have q1 := (add_sl W x.at_ x.id).2.1
          have q2 := (advance_sl W1 x.at_).2
          have q3 : l2.length ≤ W1.l.length := by
            have : l2 = (W1.advance x.at_).2.1 := by rw [hadv]
            rw [this]
            exact adv_out_le _ _
          rw [hadd] at q1
          rw [hadv] at q2
          simp only at q1 q2
          omega)
        clear hadd hadv
        go_wp2_with (first | (go_at_call 15; refine (d_add H7.out.swap HSQ.out HADD.out).mono ?_; rintro e w8 ⟨rfl, h, -⟩; have H8 := Lib.hid h.swap; clear h f1 f2 f5; obtain ⟨⟨f1, f2⟩, f5⟩ := HPRE.out.same H8.out.kept0) | (go_at_call 15; refine (d_add HW.out HSQ.out HADD.out).mono ?_; rintro e w7 ⟨rfl, h, -⟩; have H7 := Lib.hid h; clear h f1 f2 f5; obtain ⟨⟨f1, f2⟩, f5⟩ := HPRE.out.same H7.out.kept0))
        refine (d_advance H8.out HADV.out).mono ?_
        rintro e w9 ⟨v9, rfl, ho, h, -⟩
        obtain ⟨p9, c9, rfl⟩ := ho.sl
        rw [List.length_map] at ho h
        have HO9 := Lib.hid ho
        have H9 := Lib.hid h
        clear h ho f1 f2 f5
        obtain ⟨⟨f1, f2⟩, f5⟩ := HPRE.out.same H9.out.kept0
        go_wp2_with fail
        refine (d_advance H9.out.swap HADV.out).mono ?_
        rintro e w10 ⟨v10, rfl, ho, h, K⟩
        obtain ⟨p10, c10, rfl⟩ := ho.sl
        rw [List.length_map] at ho h
        have HO9' := Lib.hid (Own.rows (HO9.out.kept K (fun b _ q s => s (.inr q))))
        have HO10 := Lib.hid ho.rows
        have H10 := Lib.hid h.swap
        clear h ho K f1 f2 f5
        go_wp2_with (first | (go_at_call 24; refine (d_list H12.out.swap).mono ?_; rintro e w13 ⟨v13, rfl, ho, h, K⟩; obtain ⟨p13, c13, rfl⟩ := ho.sl; rw [List.length_map] at ho h; have HO13 := Lib.hid ho.rows; have HO12' := Lib.hid (HO12.out.same K); have H13 := Lib.hid h.swap; clear ho h K) | (go_at_call 24; refine (d_list H11.out).mono ?_; rintro e w12 ⟨v12, rfl, ho, h, K⟩; obtain ⟨p12, c12, rfl⟩ := ho.sl; rw [List.length_map] at ho h; have HO12 := Lib.hid ho.rows; have H12 := Lib.hid h; clear ho h K) | (go_at_call 19; refine (same_c HO12'.out HO13.out (by rw [List.length_map]; exact HLN.out.2)).mono ?_; rintro e w14 ⟨rfl, K⟩; have H14 := Lib.hid (H13.out.same K); clear K; simp only [decide_true]; have HWK14 := Lib.hid (works_c H14.out.tab)) | (go_at_call 19; refine (same_c HO9'.out HO10.out (by rw [List.length_map]; exact HLN.out.1)).mono ?_; rintro e w11 ⟨rfl, K⟩; have H11 := Lib.hid (H10.out.same K); clear K; simp only [decide_true]) | (go_at_call 21; refine (d_now H14.out).mono ?_; rintro e w' ⟨rfl, hww⟩; obtain rfl := hww.symm) | (go_at_call 21; refine (d_now H14.out.swap).mono ?_; rintro e w' ⟨rfl, hww⟩; obtain rfl := hww.symm) | (go_at_call 13; refine HWK14.out.mono ?_; rintro e w15 ⟨rfl, K⟩; have HK15 := Lib.hid K; clear K))
        go_ret
        exact ⟨rfl, HKQ.out.trans (H14.out.kept0.trans HK15.out (fun _ _ h => h)) (fun _ _ h => h)⟩
end Go.Proofs.YtjlcchjcppkbjaaDoor
