/- ArPlays: texts for the statements of this seat: contracts of functions, walks, plain laws. Conditions: none. -/
import Derived.Deep.Cut
import Derived.Deep.CutRange
import Derived.Deep.CutBlock
import Derived.Deep.DeepCutAuto
import Derived.Test.YtokmjjjedljcpaaArPlays0
import Derived.Test.YtokmjjjedljcpaaArCopy
set_option linter.all false
/- The walk of ArenaPlays. -/
namespace Go.Proofs.Ytokmjjjedljcpaa
open Go.RowKit
set_option maxRecDepth 100000 in
set_option maxHeartbeats 8000000 in
theorem plays_w {w : World} {vl : Value} {l : List St} (h : Rows stC 4 w vl l) (hlb : ∀ x ∈ l, x.h ≤ 9223372036854775807 ∧ 0 ≤ x.at_ ∧ x.at_ ≤ 65535) (size hh : Int) (hs0 : 0 ≤ size) (hs1 : size ≤ 255) (hhb : hh ≤ 9223372036854775807) :
    Calls Try.prog 7 #[.int .u8 size, vl, .int .i64 hh] w fun e w' => e = .returned (.bool true) ∧ Kept (fun _ => False) w w' := by
  have HQ := Lib.hid h
  have HLB := Lib.hid hlb
  obtain ⟨aa, cc, hvl⟩ := h.len
  obtain ⟨n, hn⟩ : ∃ n, l.length = n := ⟨_, rfl⟩
  have HN := Lib.hid hn
  rw [hn] at hvl
  subst hvl
  clear h hlb hn
  by_cases h150 : 150 < n
  · have hi : (150 : Int) < (n : Int) := by omega
    go_enter Try.func7, Try.ntmps7
    go_wp2_with (go_at_call 15; fail)
    refine (works_c _).mono ?_
    rintro e w1 ⟨rfl, K1⟩
    have HK := Lib.hid K1
    clear K1
    go_wp2
    go_ret
    exact ⟨rfl, HK.out⟩
  · have hi : ¬ (150 : Int) < (n : Int) := by omega
    obtain ⟨m, hm⟩ : ∃ m : Nat, size % 41 = (m : Int) := ⟨(size % 41).toNat, by omega⟩
    have hm41 : m ≤ 40 := by omega
    have HM := Lib.hid hm
    go_enter Try.func7, Try.ntmps7
    go_wp2_with (go_at_call 10; fail)
    refine (new_a (m : Int) w (by omega) (by omega)).mono ?_
    rintro e w1 ⟨rfl, I1, K1⟩
    rw [Int.toNat_natCast] at I1
    have HI1 := Lib.hid I1
    have HK1 := Lib.hid K1
    clear I1 K1
    go_wp2_with (go_at_call 18; fail)
    refine (rnew_r m w1 (by omega)).mono ?_
    rintro e w2 ⟨rb0, v10, v20, v30, v40, rfl, R2, K2⟩
    have HP0 : Hid (Pl w w2 (w.heap.size + 1) w.heap.size m rb0 v10 v20 v30 v40 (AA.empty m) (AA.empty m) (.slice none 0 0) [] (.pointer none) (.pointer none)) := Lib.hid (by
      have hF : ∀ b, FR rb0 v10 v20 v30 v40 b → w1.heap.size ≤ b := fun b q => (R2.ltF q).2
      have hs := HK1.out.size
      have ha := HI1.out.lta
      have hb := HI1.out.lts
      exact ⟨HI1.out.same K2, R2.base hs, ⟨rfl, .inl ⟨rfl, rfl⟩⟩, ⟨by omega, by omega⟩, ⟨fun q => by have := hF _ q; omega, fun q => by have := hF _ q; omega⟩, (fun b q => by cases q), (fun x hx => by cases hx), HK1.out.trans K2 (fun _ _ h => h), .inl ⟨rfl, rfl⟩⟩)
    clear R2 K2 HI1 HK1 hm
    generalize w.heap.size + 1 = ab0 at HP0 ⊢
    obtain ⟨sb0, hsb0⟩ : ∃ sb0, sb0 = w.heap.size := ⟨_, rfl⟩
    rw [← hsb0] at HP0
    clear hsb0
    go_wp2
    go_loopw [7, 9, 11, 12, 13, 47] (fun s7 s9 s11 s12 s13 i wr => ∃ (k ab sb cap rb : Nat) (v1 v2 v3 v4 : Value) (a : AA) (vg : Value) (G : List Int) (po pw : Value), k ≤ n ∧ i = .int .i64 k ∧ s7 = .pointer (some ⟨ab, 0, none⟩) ∧ s9 = .pointer (some ⟨rb, 0, none⟩) ∧ vg = s11 ∧ po = s12 ∧ pw = s13 ∧ G.length ≤ k ∧ Pl w wr ab sb cap rb v1 v2 v3 v4 a a vg G po pw) (fun _ _ _ _ _ i _ => match i with | .int _ x => (n - x).toNat | _ => 0)
    case atStart => exact ⟨0, _, _, _, _, _, _, _, _, _, _, _, _, _, Nat.zero_le _, rfl, rfl, rfl, rfl, rfl, rfl, Nat.zero_le _, HP0.out⟩
    case round =>
      obtain ⟨k, ab, sb, cap, rb, v1, v2, v3, v4, a, vg, G, po, pw, hk, rfl, rfl, rfl, rfl, rfl, rfl, hgk, hpl⟩ := hrel
      have HP := Lib.hid hpl
      clear hpl
      by_cases hlk : k < n
      · have hkl : k < l.length := by have := HN.out; omega
        have HX := Lib.hid (List.getElem?_eq_getElem hkl)
        have hxb := HLB.out _ (List.getElem_mem hkl)
        obtain ⟨b0, off, cap', hv, hcp, hb0, hrows⟩ := (HQ.out.same HP.out.kept).pos (by have := HN.out; omega)
        rw [HN.out] at hv
        injection hv with e1 e2 e3
        subst e1 e3
        generalize l[k] = x at HX hxb
        have a0 : wr.cell? ⟨b0, off + k * 4, none⟩ = some (.int .i64 x.d) := hrows k x HX.out 0 _ rfl
        have a1 : wr.cell? ⟨b0, off + k * 4 + 1, none⟩ = some (.int .i64 x.v) := hrows k x HX.out 1 _ rfl
        have a2 : wr.cell? ⟨b0, off + k * 4 + 2, none⟩ = some (.int .u16 x.at_) := hrows k x HX.out 2 _ rfl
        have a3 : wr.cell? ⟨b0, off + k * 4 + 3, none⟩ = some (.int .i64 x.h) := hrows k x HX.out 3 _ rfl
        have i1 : (0 : Int) ≤ (k : Int) := by omega
        have i2 : (k : Int) < (n : Int) := by omega
        have kB : Kept (fun _ => False) wr (wr.alloc (.cells #[.int .i64 x.d, .int .i64 x.v, .int .u16 x.at_, .int .i64 x.h] 52)) := (Kept.refl _ _).alloc _
        have HPB := Lib.hid (HP.out.same kB)
        have HRB := Lib.hid (RowAt.new wr 52 #[.int .i64 x.d, .int .i64 x.v, .int .u16 x.at_, .int .i64 x.h])
        have HAV : Hid (∀ b, TT ab sb rb v1 v2 v3 v4 vg b → b < wr.heap.size) := Lib.hid fun b q => by
          rcases q with rfl | rfl | q | q
          · exact HP.out.I.lta
          · exact HP.out.I.lts
          · exact (HP.out.R.ltF q).1
          · exact (ownsRow_block HP.out.g q).2
        clear hrows e2 kB HP
        go_upto_block 2 with fail
        generalize wr.alloc (.cells #[.int .i64 x.d, .int .i64 x.v, .int .u16 x.at_, .int .i64 x.h] 52) = wx at HPB HRB ⊢
        generalize wr.heap.size = Bx at HRB HAV ⊢
        clear a0 a1 a2 a3
        go_cut [7, 9, 11, 12, 13] from 51 to 117 (fun s7 s9 s11 s12 s13 wz => ∃ (ab sb cap rb : Nat) (v1 v2 v3 v4 : Value) (a : AA) (vg : Value) (G : List Int) (po pw : Value), s7 = .pointer (some ⟨ab, 0, none⟩) ∧ s9 = .pointer (some ⟨rb, 0, none⟩) ∧ vg = s11 ∧ po = s12 ∧ pw = s13 ∧ G.length ≤ k + 1 ∧ Pl w wz ab sb cap rb v1 v2 v3 v4 a a vg G po pw ∧ RowAt wz Bx [.int .i64 x.d, .int .i64 x.v, .int .u16 x.at_, .int .i64 x.h])
        case first =>
          have hrb := HRB.out
          have z0 := hrb.get (j := 0) rfl
          have z1 := hrb.get (j := 1) rfl
          have z2 := hrb.get (j := 2) rfl
          have z3 := hrb.get (j := 3) rfl
          have zl := hrb.lt
          clear hrb
          by_cases d0 : x.d = 0
          · have b0 : (x.d == 0) = true := by simpa using d0
            clear d0
            obtain ⟨a', hd, er, hput⟩ : ∃ a' hd er, a.put x.v = (a', hd, er) := ⟨_, _, _, rfl⟩
            have HPUT := Lib.hid hput
            have HBD := Lib.hid (put_bd HPB.out.I.aok hput)
            clear hput
            go_wp2_with (go_at_call 11; fail)
            refine (put_a HPB.out.I HPUT.out).mono ?_
            rintro e w3 ⟨rfl, I3, K3⟩
            have HP3 := Lib.hid (HPB.out.stepA I3 K3)
            have HR3 := Lib.hid (RowAt.kept HRB.out K3 (fun q => by
              rcases q with q | q
              · have := HAV.out ab (.inl rfl); omega
              · have := HAV.out sb (.inr (.inl rfl)); omega))
            have y1 := HR3.out.get (j := 1) rfl
            have yl := HR3.out.lt
            have HOKA := Lib.hid HPB.out.I.aok
            clear I3 K3 z0 z1 z2 z3 zl HPB HRB
            go_wp2_with (go_at_call 20; fail)
            refine (rput_c HP3.out.R HOKA.out HPUT.out).mono ?_
            rintro e w4 ⟨rfl, p4⟩
            have hr4 : RowAt w4 Bx [.int .i64 x.d, .int .i64 x.v, .int .u16 x.at_, .int .i64 x.h] := by
              obtain ⟨_, _, K4, _⟩ := p4
              exact RowAt.kept HR3.out K4 (fun q => Nat.lt_irrefl _ (HAV.out _ (.inr (.inr (.inl q)))))
            obtain ⟨v4n, hp4⟩ := HP3.out.stepR p4
            have HP4 := Lib.hid hp4
            have HR4 := Lib.hid hr4
            clear p4 hr4 hp4 HP3 HR3 y1 yl HOKA
            obtain ⟨pg, cg, hvg⟩ := own_v HP4.out.g
            subst hvg
            have HGO := Lib.hid HP4.out.g
            have HGB := Lib.hid HP4.out.kept.size
            have hgl : G.length ≤ 150 := by omega
            go_wp2_with (at_builtin; go_loud (refine wpList_appN el50 rfl (.tmp 77) (.tmp 79) rfl (news := [.int .i64 hd]) w.heap.size (.slice pg G.length cg) G.length 1 (G.map (Value.int .i64)) rfl HGO.out (by simp [Act.eval]) rfl (by decide) (by simp [Value.oneCell']) (by unfold maxLen; omega) (by omega) HGB.out ?_))
            intro gg cg2 w5 hown5 K5 hor5
            have hp5 := HP4.out.stepG (vg' := .slice (some ⟨gg, 0, none⟩) (G.length + 1) cg2) (G' := G ++ [hd]) (by simpa using hown5) K5 (fun b q => by
              simp only [Value.ownBlock, Option.some.injEq] at q
              subst q
              exact hor5) (fun y hy => by
              rcases List.mem_append.1 hy with hy | hy
              · exact HP4.out.gb y hy
              · simp at hy; subst hy; exact HBD.out)
            have HP5 := Lib.hid hp5
            have HR5 := Lib.hid (RowAt.kept HR4.out K5 (fun q => Nat.lt_irrefl _ (HAV.out _ (.inr (.inr (.inr q))))))
            clear hown5 K5 hor5 hp5 HP4 HR4 HGO HGB
            go_wp2_with fail
            go_meet
            exact ⟨_, _, _, _, _, _, _, _, _, _, _, _, _, rfl, rfl, rfl, rfl, rfl, by rw [List.length_append, List.length_singleton]; omega, HP5.out, HR5.out⟩
          · have b0 : (x.d == 0) = false := by simpa using d0
            by_cases d1 : x.d = 1
            · have b1 : (x.d == 1) = true := by simpa using d1
              clear d0 d1
              obtain ⟨ng, hng⟩ : ∃ ng, G.length = ng := ⟨_, rfl⟩
              have HNG := Lib.hid hng
              by_cases hg0 : 0 < ng
              · obtain ⟨q, hq⟩ : ∃ q : Nat, x.at_ % (ng : Int) = (q : Int) := ⟨(x.at_ % (ng : Int)).toNat, by have := Int.emod_nonneg x.at_ (show (ng : Int) ≠ 0 by omega); omega⟩
                have hqn : q < ng := by have := Int.emod_lt_of_pos x.at_ (show (0 : Int) < (ng : Int) by omega); omega
                obtain ⟨y, hy⟩ : ∃ y, G[q]? = some y := ⟨_, List.getElem?_eq_getElem (by rw [HNG.out]; exact hqn)⟩
                obtain ⟨gg, cg, hvg, -, g0, -⟩ := own_cell HPB.out.g (k := q) (u := .int .i64 y) (by rw [List.getElem?_map, hy]; rfl)
                rw [HNG.out] at hvg
                subst hvg
                have hyb := HPB.out.gb y (List.mem_of_getElem? hy)
                have j1 : (0 : Int) ≤ (q : Int) := by omega
                have j2 : (q : Int) < (ng : Int) := by omega
                have j3 : (0 : Int) < (ng : Int) := by omega
                clear hy
                obtain ⟨a', er, hfr⟩ : ∃ a' er, a.free y = (a', er) := ⟨_, _, rfl⟩
                have HFR := Lib.hid hfr
                have HOKA := Lib.hid HPB.out.I.aok
                clear hfr
                go_wp2_with (go_at_call 12; fail)
                refine (free_a HPB.out.I hyb HFR.out).mono ?_
                rintro e w3 ⟨rfl, I3, K3⟩
                have HP3 := Lib.hid (HPB.out.stepA I3 K3)
                have HR3 := Lib.hid (RowAt.kept HRB.out K3 (fun q => by
                  rcases q with q | q
                  · have := HAV.out ab (.inl rfl); omega
                  · have := HAV.out sb (.inr (.inl rfl)); omega))
                clear I3 K3 z0 z1 z2 z3 zl HPB HRB
                go_wp2_with (go_at_call 21; fail)
                refine (rfree_c HP3.out.R HOKA.out HFR.out).mono ?_
                rintro e w4 ⟨rfl, p4⟩
                have hr4 : RowAt w4 Bx [.int .i64 x.d, .int .i64 x.v, .int .u16 x.at_, .int .i64 x.h] := by
                  obtain ⟨_, _, K4, _⟩ := p4
                  exact RowAt.kept HR3.out K4 (fun q => Nat.lt_irrefl _ (HAV.out _ (.inr (.inr (.inl q)))))
                obtain ⟨v4n, hp4⟩ := HP3.out.stepR p4
                have HP4 := Lib.hid hp4
                have HR4 := Lib.hid hr4
                clear p4 hr4 hp4 HP3 HR3
                go_wp2_with fail
                go_meet
                exact ⟨_, _, _, _, _, _, _, _, _, _, _, _, _, rfl, rfl, rfl, rfl, rfl, by omega, HP4.out, HR4.out⟩
              · obtain ⟨pg, cg, hvg⟩ := own_v HPB.out.g
                rw [hng] at hvg
                obtain rfl : ng = 0 := by omega
                subst hvg
                obtain ⟨a', er, hfr⟩ : ∃ a' er, a.free x.h = (a', er) := ⟨_, _, rfl⟩
                have HFR := Lib.hid hfr
                have HOKA := Lib.hid HPB.out.I.aok
                clear hfr
                go_wp2_with (go_at_call 12; fail)
                refine (free_a HPB.out.I hxb.1 HFR.out).mono ?_
                rintro e w3 ⟨rfl, I3, K3⟩
                have HP3 := Lib.hid (HPB.out.stepA I3 K3)
                have HR3 := Lib.hid (RowAt.kept HRB.out K3 (fun q => by
                  rcases q with q | q
                  · have := HAV.out ab (.inl rfl); omega
                  · have := HAV.out sb (.inr (.inl rfl)); omega))
                clear I3 K3 z0 z1 z2 z3 zl HPB HRB
                go_wp2_with (go_at_call 21; fail)
                refine (rfree_c HP3.out.R HOKA.out HFR.out).mono ?_
                rintro e w4 ⟨rfl, p4⟩
                have hr4 : RowAt w4 Bx [.int .i64 x.d, .int .i64 x.v, .int .u16 x.at_, .int .i64 x.h] := by
                  obtain ⟨_, _, K4, _⟩ := p4
                  exact RowAt.kept HR3.out K4 (fun q => Nat.lt_irrefl _ (HAV.out _ (.inr (.inr (.inl q)))))
                obtain ⟨v4n, hp4⟩ := HP3.out.stepR p4
                have HP4 := Lib.hid hp4
                have HR4 := Lib.hid hr4
                clear p4 hr4 hp4 HP3 HR3
                go_wp2_with fail
                go_meet
                exact ⟨_, _, _, _, _, _, _, _, _, _, _, _, _, rfl, rfl, rfl, rfl, rfl, by omega, HP4.out, HR4.out⟩
            · have b1 : (x.d == 1) = false := by simpa using d1
              by_cases d2 : x.d = 2
              · have b2 : (x.d == 2) = true := by simpa using d2
                clear d0 d1 d2
                obtain ⟨a', er, hfr⟩ : ∃ a' er, a.free x.h = (a', er) := ⟨_, _, rfl⟩
                have HFR := Lib.hid hfr
                have HOKA := Lib.hid HPB.out.I.aok
                clear hfr
                go_wp2_with (go_at_call 12; fail)
                refine (free_a HPB.out.I hxb.1 HFR.out).mono ?_
                rintro e w3 ⟨rfl, I3, K3⟩
                have HP3 := Lib.hid (HPB.out.stepA I3 K3)
                have HR3 := Lib.hid (RowAt.kept HRB.out K3 (fun q => by
                  rcases q with q | q
                  · have := HAV.out ab (.inl rfl); omega
                  · have := HAV.out sb (.inr (.inl rfl)); omega))
                clear I3 K3 z0 z1 z2 z3 zl HPB HRB
                go_wp2_with (go_at_call 21; fail)
                refine (rfree_c HP3.out.R HOKA.out HFR.out).mono ?_
                rintro e w4 ⟨rfl, p4⟩
                have hr4 : RowAt w4 Bx [.int .i64 x.d, .int .i64 x.v, .int .u16 x.at_, .int .i64 x.h] := by
                  obtain ⟨_, _, K4, _⟩ := p4
                  exact RowAt.kept HR3.out K4 (fun q => Nat.lt_irrefl _ (HAV.out _ (.inr (.inr (.inl q)))))
                obtain ⟨v4n, hp4⟩ := HP3.out.stepR p4
                have HP4 := Lib.hid hp4
                have HR4 := Lib.hid hr4
                clear p4 hr4 hp4 HP3 HR3
                go_wp2_with fail
                go_meet
                exact ⟨_, _, _, _, _, _, _, _, _, _, _, _, _, rfl, rfl, rfl, rfl, rfl, by omega, HP4.out, HR4.out⟩
              · have b2 : (x.d == 2) = false := by simpa using d2
                by_cases d3 : x.d = 3
                · have b3 : (x.d == 3) = true := by simpa using d3
                  clear d3
                  go_wp2_with (go_at_call 19; fail)
                  refine (copy_a HPB.out.I).mono ?_
                  rintro e w3 ⟨cb, sb2, cap2, rfl, I3, K3, q1, q2⟩
                  have HI3 := Lib.hid I3
                  have HK3 := Lib.hid K3
                  have HR3 := Lib.hid (RowAt.same HRB.out K3)
                  have HRR := Lib.hid (HPB.out.R.same K3)
                  have HOKA := Lib.hid HPB.out.I.aok
                  clear I3 K3 z0 z1 z2 z3 zl HRB
                  go_wp2_with (go_at_call 22; fail)
                  refine (rcopy_c HRR.out HOKA.out).mono ?_
                  rintro e w4 ⟨rb', u1, u2, u3, u4, rfl, R4, K4⟩
                  have HP4 := Lib.hid (HPB.out.copy HI3.out HK3.out q1 q2 R4 K4)
                  have HR4 := Lib.hid (RowAt.same HR3.out K4)
                  clear R4 K4 HR3 HRR HI3 HK3 HPB
                  go_wp2_with fail
                  go_meet
                  exact ⟨_, _, _, _, _, _, _, _, _, _, _, _, _, rfl, rfl, rfl, rfl, rfl, by omega, HP4.out, HR4.out⟩
                · have b3 : (x.d == 3) = false := by simpa using d3
                  clear d0 d1 d2 d3
                  go_wp2_with fail
                  go_meet
                  exact ⟨_, _, _, _, _, _, _, _, _, _, _, _, _, rfl, rfl, rfl, rfl, rfl, by omega, HPB.out, HRB.out⟩
        case rest =>
          obtain ⟨ab2, sb2, cap2, rb2, u1, u2, u3, u4, a2, vg2, G2, po2, pw2, rfl, rfl, rfl, rfl, rfl, hg2, hp2, hr2⟩ := hcut
          have HP2 := Lib.hid hp2
          have HR2 := Lib.hid hr2
          clear hp2 hr2 HPB HRB HAV HP0
          go_wp2_with (go_at_call 23; fail)
          refine (shows_c HP2.out.I HP2.out.R hh hhb).mono ?_
          rintro e w3 ⟨rfl, K3⟩
          have HP3 := Lib.hid (HP2.out.same K3)
          have HR3 := Lib.hid (RowAt.same HR2.out K3)
          have y3 := HR3.out.get (j := 3) rfl
          have yl := HR3.out.lt
          clear K3 HP2 HR2
          go_wp2_with (go_at_call 23; fail)
          refine (shows_c HP3.out.I HP3.out.R x.h hxb.1).mono ?_
          rintro e w4 ⟨rfl, K4⟩
          have HP4 := Lib.hid (HP3.out.same K4)
          clear K4 HP3 HR3 y3 yl
          have hold := HP4.out.old
          rcases hold with ⟨rfl, rfl⟩ | ⟨oab, osb, oc, orb, o1, o2, o3, o4, oa, rfl, rfl, OI, OR, -⟩
          · go_wp2
            go_roundw
            case rel => exact ⟨k + 1, _, _, _, _, _, _, _, _, _, _, _, _, _, by omega, by go_num, rfl, rfl, rfl, rfl, rfl, by omega, HP4.out⟩
            case measure => first | (simp; done) | (simp; omega)
          · have HOI := Lib.hid OI
            have HOR := Lib.hid OR
            clear OI OR
            go_wp2_with (go_at_call 23; fail)
            refine (shows_c HOI.out HOR.out hh hhb).mono ?_
            rintro e w5 ⟨rfl, K5⟩
            have HP5 := Lib.hid (HP4.out.same K5)
            clear K5 HP4 HOI HOR
            go_wp2
            go_roundw
            case rel => exact ⟨k + 1, _, _, _, _, _, _, _, _, _, _, _, _, _, by omega, by go_num, rfl, rfl, rfl, rfl, rfl, by omega, HP5.out⟩
            case measure => first | (simp; done) | (simp; omega)
      · obtain rfl : k = n := by omega
        have HK := Lib.hid HP.out.kept
        clear HP
        go_wp2_with (go_at_call 15; fail)
        refine (works_c _).mono ?_
        rintro e w9 ⟨rfl, K9⟩
        have HK9 := Lib.hid (HK.out.trans K9 (fun _ _ h => h))
        clear K9 HK
        go_wp2
        go_ret
        exact ⟨rfl, HK9.out⟩
end Go.Proofs.Ytokmjjjedljcpaa
