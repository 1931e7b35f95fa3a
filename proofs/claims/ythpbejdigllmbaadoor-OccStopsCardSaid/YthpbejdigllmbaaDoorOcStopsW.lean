/- OcStopsW: texts for the statements of this seat: contracts of functions, walks, plain laws. Conditions: none. -/
import Derived.Test.YthpbejdigllmbaaDoorOcChoose
import Derived.Test.YthpbejdigllmbaaDoorOcArgs
import Derived.Test.YthpbejdigllmbaaDoorOcStPlain
import Derived.Test.YthpbejdigllmbaaDoorOcRows
namespace Go.Proofs.YthpbejdigllmbaaDoor
open Go.RowKit

theorem cell_own' {w : World} {base e g n cap : Nat} {xs : List Int} (h : w.ownsRow base e 1 (.slice (some ⟨g, 0, none⟩) n cap) n (xs.map (Value.int .i64))) {j : Nat} {x : Int} (hx : xs[j]? = some x) (hn : xs.length = n) : w.cell? ⟨g, j, none⟩ = some (.int .i64 x) := by
  have := (List.getElem?_eq_some_iff.1 hx).1
  rw [h.cellAt j (by omega), List.getElem?_map, hx]; rfl

set_option maxHeartbeats 4000000 in
set_option maxRecDepth 100000 in
theorem stops_c (v vb : Value) (l r : List Nat) (x : Int) (x0 : 0 ≤ x) (x8 : x ≤ 255) (w : World) (T : Tbl w) (hI : IntsK .u8 w v (natI l)) (hJ : IntsK .u8 w vb (natI r)) (hm : l.length ≤ maxLen) (hmr : r.length ≤ maxLen) (hb8 : ∀ x ∈ l, x ≤ 255) (hr8 : ∀ x ∈ r, x ≤ 255) :
    Calls Tryd.prog 9 #[v, .int .u8 x, vb] w fun e w' => e = .returned (.bool true) ∧ Kept (fun _ => False) w w' := by
  unfold maxLen at hm hmr
  obtain ⟨x, rfl⟩ := Int.eq_ofNat_of_zero_le x0
  have hcell : ∀ k, k < r.length → ∃ y b off cap, r[k]? = some y ∧ vb = .slice (some ⟨b, off, none⟩) r.length cap ∧ b < w.heap.size ∧ w.cell? ⟨b, off + k, none⟩ = some (.int .u8 (y : Nat)) := fun k hk => by
    have hl : (natI r).length = r.length := by simp [natI]
    obtain ⟨b, off, cap, hv, hb, hc⟩ := hJ.pos (by omega)
    rw [hl] at hv
    refine ⟨r[k], b, off, cap, List.getElem?_eq_getElem hk, hv, hb, hc k _ ?_⟩
    unfold natI
    rw [List.getElem?_map, List.getElem?_eq_getElem hk]
    rfl
  obtain ⟨a, cap, hv⟩ := hI.len
  rw [show (natI l).length = l.length by simp [natI]] at hv
  subst hv
  obtain ⟨ab, capb, hv⟩ := hJ.len
  rw [show (natI r).length = r.length by simp [natI]] at hv
  subst hv
  have HT := Lib.hid T
  have HI := Lib.hid hI
  have HW := Lib.hid (works_c w T)
  have HC := Lib.hid hcell
  have HR8 := Lib.hid hr8
  clear T hI hJ hcell hr8
  by_cases hlt : 100 < l.length ∨ (¬ 100 < l.length ∧ 100 < r.length)
  · generalize l.length = n at hm hlt HI ⊢
    obtain ⟨nr, hnr⟩ : ∃ nr, r.length = nr := ⟨_, rfl⟩
    rw [hnr] at hmr hlt ⊢
    clear hnr HC hb8
    rcases hlt with hlt | ⟨hlt, hlt2⟩
    all_goals
      go_enter Tryd.func9, Tryd.ntmps9
      go_wp2_with fail
      refine HW.out.mono ?_
      rintro r w1 ⟨rfl, K⟩
      go_wp2
      go_ret
      exact ⟨rfl, K⟩
  · have A1 := Lib.hid (choose_c _ l w HT.out HI.out (by omega) hb8)
    have hlst := cStates_last l
    obtain ⟨b1, b2⟩ := last_st l
    have hst := cStates_length l
    have hsl := cSteps_le l
    have HOK := Lib.hid (stop_ok l x)
    have HNO := Lib.hid (fun r => stop_no l r x)
    obtain ⟨S, hS⟩ : ∃ S, cSteps l = S := ⟨_, rfl⟩
    obtain ⟨Q, hQ⟩ : ∃ Q, cStates l = Q := ⟨_, rfl⟩
    have A1 : Hid (Calls Tryd.prog 32 #[.slice a l.length cap] w fun e w' => ∃ v6 v7, e = .returned (.tuple #[v6, v7, .bool true]) ∧ w'.ownsRow w.heap.size 3 1 v6 S.length (S.map (Value.int .i64)) ∧
        w'.ownsRow w.heap.size 3 1 v7 Q.length (Q.map (Value.int .i64)) ∧ Kept (fun _ => False) w w') := Lib.hid (by rw [← hS, ← hQ]; exact A1.out)
    generalize lastOf (chs 0 l) = lst at hlst b1 b2 HOK HNO
    rw [hS] at hlst hst hsl HOK HNO
    rw [hQ] at hlst hst
    obtain ⟨n, hn⟩ : ∃ n, l.length = n := ⟨_, rfl⟩
    obtain ⟨nr, hnr⟩ : ∃ nr, r.length = nr := ⟨_, rfl⟩
    rw [hn] at A1 hlt hsl ⊢
    have HNR := Lib.hid hnr
    rw [hnr] at hlt ⊢
    obtain ⟨m, hmm⟩ : ∃ m, S.length = m := ⟨_, rfl⟩
    rw [hmm] at hst hlst hsl A1 HOK HNO
    rw [hst] at A1
    have HS := Lib.hid (And.intro hmm (And.intro hst hlst))
    have hm1 : m ≤ 100 := by omega
    have hl1 : ¬ 100 < n := by omega
    have hl2 : ¬ 100 < nr := by omega
    have hlsp : isSt lst = true := by simp [isSt]; omega
    have htp := stepOf_sp x
    obtain ⟨t, ht⟩ : ∃ t, stepOf x = t := ⟨_, rfl⟩
    rw [ht] at HOK HNO htp
    have HTX : Hid (1 + (x : Int) % 6 = t) := Lib.hid ht
    have HSP := Lib.hid (And.intro hlsp htp)
    clear hS hQ hn hmm hst hlst hm hmr hsl hlt hnr ht hlsp htp b1 b2 hb8
    go_enter Tryd.func9, Tryd.ntmps9
    go_wp2_with fail
    refine A1.out.mono ?_
    rintro e w1 ⟨v6, v7, rfl, h6, h7, K1⟩
    have T1 := HT.out.same K1
    have I6 : Ints w1 v6 S := IntsK.of_own (by rw [HS.out.1]; exact h6)
    obtain ⟨a6, d6, hv6⟩ := I6.len
    rw [HS.out.1] at hv6
    subst hv6
    obtain ⟨g7, d7, rfl, hg7⟩ := ownsRow_pos h7 (by omega)
    have hcl := cell_own' h7 HS.out.2.2 HS.out.2.1
    have A3 := Lib.hid (clone_c (.slice a6 m d6) S w1 I6 (by have := HS.out.1; omega))
    have HT1 := Lib.hid T1
    have HK1 := Lib.hid K1
    clear A1 h6 h7 K1 T1 I6
    by_cases hl : lead lst t = -1
    · have A2 := Lib.hid (step_e lst t w1 HT1.out HSP.out.1 HSP.out.2 hl)
      have HNO2 := Lib.hid (fun r => HNO.out r hl)
      clear hl HOK HNO
      go_wp2_with fail
      rw [HTX.out]
      refine A2.out.mono ?_
      rintro e w2 ⟨rfl, rfl⟩
      go_wp2_with fail
      refine A3.out.mono ?_
      rintro e w2 ⟨vc, rfl, hc, K2⟩
      rw [HS.out.1] at hc
      have HC2 := Lib.hid (And.intro hc K2)
      have hz := K2.size
      have hz1 := HK1.out.size
      clear A2 A3 hc K2 hcl
      go_wp2_with (at_builtin; refine wpList_app1 el27 rfl (.tmp 61) (.tmp 63) rfl w1.heap.size vc m (S.map (Value.int .i64)) rfl HC2.out.1 rfl rfl ?c1 ?c2 ?c3 ?c4 ?_)
      case c1 => intro u hu; simp at hu; subst hu; rfl
      case c2 => unfold maxLen; omega
      case c3 => omega
      case c4 => omega
      intro gA cA w3 hA K3
      have hA : w3.ownsRow w.heap.size 3 1 (.slice (some ⟨gA, 0, none⟩) (m + 1) cA) (m + 1) ((S ++ [t]).map (Value.int .i64)) := by rw [List.map_append]; exact ownsRow_base hA hz1
      have K03 : Kept (fun _ => False) w w3 := HK1.out.trans (HC2.out.2.trans K3 (fun i hi h => by have := (ownsRow_block HC2.out.1 h).1; omega)) (fun _ _ h => h)
      have IA : Ints w3 (.slice (some ⟨gA, 0, none⟩) (m + 1) cA) (S ++ [t]) := by
        refine IntsK.of_own (base := w.heap.size) (e := 3) ?_
        rw [List.length_append, List.length_singleton, HS.out.1]
        exact hA
      have A4 := Lib.hid (path_c _ (S ++ [t]) (by rw [List.length_append, HS.out.1]; simp; omega) w3 (HT.out.same K03) IA)
      have HP4 : Hid (pathF (S ++ [t]) = (lst, (m : Int), 0)) := Lib.hid (by have := HNO2.out []; simpa [stepsOf] using this)
      have HA := Lib.hid (And.intro hA K03)
      clear hA K3 K03 IA HC2
      go_wp2_with fail
      refine A4.out.mono ?_
      rintro e w4 ⟨rfl, K4⟩
      rw [HP4.out]
      have HA4 := Lib.hid (And.intro (ownsRow_kept HA.out.1 K4 (fun _ _ _ h => h)) (HA.out.2.trans K4 (fun _ _ h => h)))
      clear K4 A4 HA HP4
      go_wp2
      go_loopw [14, 111] (fun vA i wr => ∃ k : Nat, k ≤ nr ∧ i = .int .i64 k ∧ Kept (fun _ => False) w wr ∧ ∃ gA cA : Nat, vA = .slice (some ⟨gA, 0, none⟩) (m + 1 + k) cA ∧ wr.ownsRow w.heap.size 3 1 (.slice (some ⟨gA, 0, none⟩) (m + 1 + k) cA) (m + 1 + k) ((S ++ [t] ++ stepsOf (r.take k)).map (Value.int .i64)))
        (fun _ i _ => nr - (intOf i).toNat)
      case atStart => exact ⟨0, by omega, rfl, HA4.out.2, gA, cA, rfl, by simpa [stepsOf] using HA4.out.1⟩
      case round =>
        clear HA4
        obtain ⟨k, hk, rfl, K, gA, cA, rfl, hA⟩ := hrel
        obtain ⟨wa, rfl⟩ : ∃ wa : World, wa = wr := ⟨_, rfl⟩
        have hla := K.size
        by_cases hkn : k < nr
        · obtain ⟨y, b, off, capy, hy, hv, hbl, hcy⟩ := HC.out k (by have := HNR.out; omega)
          rw [HNR.out] at hv
          injection hv with hv1 hv2 hv3
          subst hv1 hv3
          clear hv2
          have hcy := (K.cell (a := ⟨b, off + k, none⟩) hbl (fun h => h)).trans hcy
          have hy8 := HR8.out y (List.mem_of_getElem? hy)
          have HTK := Lib.hid (stepsOf_take r k y hy)
          have HKK := Lib.hid K
          have HAA := Lib.hid hA
          clear hy K hA
          go_wp2_with (at_builtin; refine wpList_app1 el27 rfl (.tmp 115) (.tmp 120) rfl w.heap.size (.slice (some ⟨gA, 0, none⟩) (m + 1 + k) cA) (m + 1 + k) ((S ++ [t] ++ stepsOf (r.take k)).map (Value.int .i64)) rfl HAA.out rfl rfl ?c1 ?c2 ?c3 ?c4 ?_)
          case c1 => intro u hu; simp at hu; subst hu; rfl
          case c2 => unfold maxLen; omega
          case c3 => omega
          case c4 => omega
          intro gB cB w5 h5 K5
          have K05 := HKK.out.trans K5 (fun i hi h => by have := (ownsRow_block HAA.out h).1; omega)
          have h5' : w5.ownsRow w.heap.size 3 1 (.slice (some ⟨gB, 0, none⟩) (m + 1 + (k + 1)) cB) (m + 1 + (k + 1)) ((S ++ [t] ++ stepsOf (r.take (k + 1))).map (Value.int .i64)) := by
            rw [HTK.out, show m + 1 + (k + 1) = m + 1 + k + 1 by omega]
            simpa [stepOf] using h5
          have HZ := Lib.hid (And.intro K05 h5')
          clear h5 h5' K5 K05 HAA HKK hcy
          go_wp2
          go_roundw
          case rel => exact ⟨k + 1, by omega, by go_num, HZ.out.1, gB, cB, rfl, HZ.out.2⟩
          case measure => simp [intOf]; omega
        · obtain rfl : nr = k := by omega
          have hrt : r.take nr = r := List.take_of_length_le (by have := HNR.out; omega)
          rw [hrt] at hA
          obtain ⟨A, hAe⟩ : ∃ A, S ++ [t] ++ stepsOf r = A := ⟨_, rfl⟩
          have hAl : A.length = m + 1 + nr := by rw [← hAe]; simp [stepsOf, HS.out.1, HNR.out]; omega
          obtain ⟨nA, hnA⟩ : ∃ nA, m + 1 + nr = nA := ⟨_, rfl⟩
          rw [hAe] at hA
          rw [hnA] at hA hAl ⊢
          have hnA2 : nA ≤ 201 := by omega
          have HLA := Lib.hid hAl
          have IA : Ints wa (.slice (some ⟨gA, 0, none⟩) nA cA) A := IntsK.of_own (by rw [hAl]; exact hA)
          have A5 := Lib.hid (path_c _ A (by omega) wa (HT.out.same K) IA)
          have HP5 : Hid (pathF A = (lst, (m : Int), 0)) := Lib.hid (by rw [← hAe]; exact HNO2.out r)
          have HKA := Lib.hid (And.intro K hA)
          clear hrt hAe hAl hnA K hA IA hkn hk
          go_wp2_with fail
          refine A5.out.mono ?_
          rintro e w5 ⟨rfl, K5⟩
          rw [HP5.out]
          have K05 := HKA.out.1.trans K5 (fun _ _ h => h)
          have hA5 := ownsRow_kept HKA.out.2 K5 (fun _ _ _ h => h)
          have NB : NumsAt (w5.alloc (.cells #[.int .i64 0, .int .i64 7, .int .i64 (-1)] 3)) w5.heap.size [0, 7, -1] := RowAt.new w5 3 _
          obtain ⟨bb, hbb⟩ : ∃ bb, w5.heap.size = bb := ⟨_, rfl⟩
          have HFIN : Hid (Kept (fun _ => False) w (w5.alloc (.cells #[.int .i64 0, .int .i64 7, .int .i64 (-1)] 3)) ∧ (w5.alloc (.cells #[.int .i64 0, .int .i64 7, .int .i64 (-1)] 3)).ownsRow w.heap.size 3 1 (.slice (some ⟨gA, 0, none⟩) nA cA) nA (A.map (Value.int .i64)) ∧ NumsAt (w5.alloc (.cells #[.int .i64 0, .int .i64 7, .int .i64 (-1)] 3)) bb [0, 7, -1]) :=
            Lib.hid ⟨K05.alloc _, hA5.alloc _, by rw [← hbb]; exact NB⟩
          clear K5 K05 hA5 NB A5 HKA HP5
          go_wp2
          clear hbb
          go_loopw [144] (fun i wr => ∃ k : Nat, k ≤ 3 ∧ i = .int .i64 k ∧ Kept (fun _ => False) w wr ∧ wr.ownsRow w.heap.size 3 1 (.slice (some ⟨gA, 0, none⟩) nA cA) nA (A.map (Value.int .i64)) ∧ NumsAt wr bb [0, 7, -1])
            (fun i _ => 3 - (intOf i).toNat)
          case atStart => exact ⟨0, by omega, rfl, HFIN.out.1, HFIN.out.2.1, HFIN.out.2.2⟩
          case round =>
            clear HFIN
            obtain ⟨k, hk, rfl, K, hA, N⟩ := hrel
            obtain ⟨wx, rfl⟩ : ∃ wx : World, wx = wr := ⟨_, rfl⟩
            by_cases hk3 : k < 3
            · have hcb := N.get (j := k) (by simpa using hk3)
              have hbad : isSp ([0, 7, -1].getD k 0) = false := by
                have : ∀ k : Fin 3, isSp ([0, 7, -1].getD k.1 0) = false := by decide
                exact this ⟨k, hk3⟩
              generalize ([0, 7, -1] : List Int).getD k 0 = bd at hcb hbad
              have hAl : A.length = nA := HLA.out
              have D1 := Lib.hid (clone_c (.slice (some ⟨gA, 0, none⟩) nA cA) A wx (IntsK.of_own (by rw [hAl]; exact hA)) (by omega))
              have HB := Lib.hid hbad
              have HX := Lib.hid (And.intro K (And.intro hA N))
              clear hbad hAl K hA N
              go_wp2_with fail
              refine D1.out.mono ?_
              rintro e y1 ⟨vc, rfl, hc, L1⟩
              rw [HLA.out] at hc
              have hz1 := L1.size
              have HY1 := Lib.hid (And.intro hc L1)
              clear hc L1 D1
              go_wp2_with (at_builtin; refine wpList_app1 el27 rfl (.tmp 150) (.tmp 152) rfl wx.heap.size vc nA (A.map (Value.int .i64)) rfl HY1.out.1 rfl rfl ?e1 ?e2 ?e3 ?e4 ?_)
              case e1 => intro u hu; simp at hu; subst hu; rfl
              case e2 => unfold maxLen; omega
              case e3 => omega
              case e4 => omega
              intro gc cc y2 hc2 L2
              have L02 : Kept (fun _ => False) wx y2 := HY1.out.2.trans L2 (fun i hi h => by have := (ownsRow_block HY1.out.1 h).1; omega)
              have IC : Ints y2 (.slice (some ⟨gc, 0, none⟩) (nA + 1) cc) (A ++ [bd]) := by
                refine IntsK.of_own (base := wx.heap.size) (e := 3) ?_
                rw [List.length_append, List.length_singleton, HLA.out, List.map_append]
                exact hc2
              have D2 := Lib.hid (path_c _ (A ++ [bd]) (by rw [List.length_append, HLA.out]; simp; omega) y2 (HT.out.same (HX.out.1.trans L02 (fun _ _ h => h))) IC)
              have HY2 := Lib.hid L02
              clear hc2 L2 L02 IC HY1
              go_wp2_with fail
              refine D2.out.mono ?_
              rintro e y3 ⟨rfl, L3⟩
              rw [bad_path A bd HB.out]
              have L03 := HY2.out.trans L3 (fun _ _ h => h)
              have hA3 := ownsRow_kept HX.out.2.1 L03 (fun _ _ _ h => h)
              have HY3 := Lib.hid (And.intro L03 hA3)
              have O4 : (y3.alloc (.cells #[.int .i64 bd] 3)).ownsRow y3.heap.size 3 1 (.slice (some ⟨y3.heap.size, 0, none⟩) 1 1) 1 ([bd].map (Value.int .i64)) := World.ownsRow_lit y3 #[.int .i64 bd] 1 (Nat.le_refl _) (by decide) rfl
              have HO4 := Lib.hid O4
              clear L3 L03 hA3 O4 D2 HY2
              go_wp2_with (at_builtin; refine wpList_appRow el27 rfl (.tmp 166) (.tmp 167) rfl y3.heap.size _ 1 ([bd].map (Value.int .i64)) rfl HO4.out gA 0 nA cA rfl A HLA.out ?f1 ?f2 ?f3 ?_)
              case f1 =>
                intro j u hj
                have hj2 := (List.getElem?_eq_some_iff.1 hj).1
                have := ownsRow_kept HY3.out.2 ((Kept.refl (fun _ => False) y3).alloc (.cells #[.int .i64 bd] 3)) (fun _ _ _ h => h)
                rw [Nat.zero_add, this.cellAt j (by have := HLA.out; omega), List.getElem?_map, hj]; rfl
              case f2 => omega
              case f3 => simp
              intro v5 y5 h5 L5
              have L05 : Kept (fun _ => False) y3 y5 := ((Kept.refl _ y3).alloc _).trans L5 (fun i hi h => by simp [Value.ownBlock] at h; omega)
              have I5 : Ints y5 v5 (bd :: A) := by
                refine IntsK.of_own (base := y3.heap.size) (e := 3) ?_
                rw [List.length_cons, HLA.out, Nat.add_comm]
                exact h5
              have L15 := HY3.out.1.trans L05 (fun _ _ h => h)
              have D3 := Lib.hid (att_c v5 (bd :: A) (by rw [List.length_cons, HLA.out]; omega) y5 (HT.out.same (HX.out.1.trans L15 (fun _ _ h => h))) I5)
              have HY5 := Lib.hid L15
              clear h5 L5 L05 I5 L15 HY3 HO4
              go_wp2_with fail
              refine D3.out.mono ?_
              rintro e y6 ⟨rfl, L6⟩
              rw [bad_att A bd HB.out]
              have L16 := HY5.out.trans L6 (fun _ _ h => h)
              have HZ := Lib.hid (And.intro (HX.out.1.trans L16 (fun _ _ h => h)) (And.intro (ownsRow_kept HX.out.2.1 L16 (fun _ _ _ h => h)) (HX.out.2.2.same L16)))
              clear L6 L16 D3 HY5 HX
              go_wp2
              go_roundw
              case rel => exact ⟨k + 1, by omega, by go_num, HZ.out.1, HZ.out.2.1, HZ.out.2.2⟩
              case measure => simp [intOf]; omega
            · obtain rfl : k = 3 := by omega
              have HK := Lib.hid K
              have HW := Lib.hid (works_c wx (HT.out.same K))
              clear K hA N
              go_wp2_with fail
              refine HW.out.mono ?_
              rintro e y1 ⟨rfl, K1⟩
              go_wp2
              go_ret
              exact ⟨rfl, HK.out.trans K1 (fun _ _ h => h)⟩
    · have A2 := Lib.hid (step_b lst t w1 HT1.out HSP.out.1 HSP.out.2 hl)
      have HP4 := Lib.hid (HOK.out hl)
      clear hl HOK HNO
      generalize lead lst t = q at A2 HP4
      go_wp2_with fail
      rw [HTX.out]
      refine A2.out.mono ?_
      rintro e w2 ⟨rfl, rfl⟩
      go_wp2_with fail
      refine A3.out.mono ?_
      rintro e w2 ⟨vc, rfl, hc, K2⟩
      rw [HS.out.1] at hc
      have HC2 := Lib.hid (And.intro hc K2)
      have hz := K2.size
      have hz1 := HK1.out.size
      clear A2 A3 hc K2 hcl
      go_wp2_with (at_builtin; refine wpList_app1 el27 rfl (.tmp 61) (.tmp 63) rfl w1.heap.size vc m (S.map (Value.int .i64)) rfl HC2.out.1 rfl rfl ?c1 ?c2 ?c3 ?c4 ?_)
      case c1 => intro u hu; simp at hu; subst hu; rfl
      case c2 => unfold maxLen; omega
      case c3 => omega
      case c4 => omega
      intro gA cA w3 hA K3
      have hA : w3.ownsRow w.heap.size 3 1 (.slice (some ⟨gA, 0, none⟩) (m + 1) cA) (m + 1) ((S ++ [t]).map (Value.int .i64)) := by rw [List.map_append]; exact ownsRow_base hA hz1
      have K03 : Kept (fun _ => False) w w3 := HK1.out.trans (HC2.out.2.trans K3 (fun i hi h => by have := (ownsRow_block HC2.out.1 h).1; omega)) (fun _ _ h => h)
      obtain ⟨A, hAe⟩ : ∃ A, S ++ [t] = A := ⟨_, rfl⟩
      have hAl : A.length = m + 1 := by rw [← hAe]; simp [HS.out.1]
      rw [hAe] at hA HP4
      obtain ⟨nA, hnA⟩ : ∃ nA, m + 1 = nA := ⟨_, rfl⟩
      have IA : Ints w3 (.slice (some ⟨gA, 0, none⟩) (m + 1) cA) A := IntsK.of_own (by rw [hAl]; exact hA)
      have A4 := Lib.hid (path_c _ A (by omega) w3 (HT.out.same K03) IA)
      have HA := Lib.hid (And.intro hA K03)
      have HLA0 := Lib.hid hAl
      have HnA := Lib.hid hnA
      clear hA K3 K03 IA HC2 hAe hAl hnA
      go_wp2_with fail
      refine A4.out.mono ?_
      rintro e w4 ⟨rfl, K4⟩
      rw [HP4.out]
      have K04 := HA.out.2.trans K4 (fun _ _ h => h)
      have hA4 := ownsRow_kept HA.out.1 K4 (fun _ _ _ h => h)
      have NB : NumsAt (w4.alloc (.cells #[.int .i64 0, .int .i64 7, .int .i64 (-1)] 3)) w4.heap.size [0, 7, -1] := RowAt.new w4 3 _
      obtain ⟨bb, hbb⟩ : ∃ bb, w4.heap.size = bb := ⟨_, rfl⟩
      rw [HnA.out] at hA4
      have HLA : Hid (A.length = nA) := Lib.hid (by rw [HLA0.out, HnA.out])
      have hnA2 : nA ≤ 201 := by have := HnA.out; omega
      have HFIN : Hid (Kept (fun _ => False) w (w4.alloc (.cells #[.int .i64 0, .int .i64 7, .int .i64 (-1)] 3)) ∧ (w4.alloc (.cells #[.int .i64 0, .int .i64 7, .int .i64 (-1)] 3)).ownsRow w.heap.size 3 1 (.slice (some ⟨gA, 0, none⟩) nA cA) nA (A.map (Value.int .i64)) ∧ NumsAt (w4.alloc (.cells #[.int .i64 0, .int .i64 7, .int .i64 (-1)] 3)) bb [0, 7, -1]) :=
        Lib.hid ⟨K04.alloc _, hA4.alloc _, by rw [← hbb]; exact NB⟩
      clear K4 K04 hA4 NB A4 HA HP4
      go_wp2
      rw [HnA.out]
      clear hbb
      go_loopw [144] (fun i wr => ∃ k : Nat, k ≤ 3 ∧ i = .int .i64 k ∧ Kept (fun _ => False) w wr ∧ wr.ownsRow w.heap.size 3 1 (.slice (some ⟨gA, 0, none⟩) nA cA) nA (A.map (Value.int .i64)) ∧ NumsAt wr bb [0, 7, -1])
        (fun i _ => 3 - (intOf i).toNat)
      case atStart => exact ⟨0, by omega, rfl, HFIN.out.1, HFIN.out.2.1, HFIN.out.2.2⟩
      case round =>
        clear HFIN
        obtain ⟨k, hk, rfl, K, hA, N⟩ := hrel
        obtain ⟨wx, rfl⟩ : ∃ wx : World, wx = wr := ⟨_, rfl⟩
        by_cases hk3 : k < 3
        · have hcb := N.get (j := k) (by simpa using hk3)
          have hbad : isSp ([0, 7, -1].getD k 0) = false := by
            have : ∀ k : Fin 3, isSp ([0, 7, -1].getD k.1 0) = false := by decide
            exact this ⟨k, hk3⟩
          generalize ([0, 7, -1] : List Int).getD k 0 = bd at hcb hbad
          have hAl : A.length = nA := HLA.out
          have D1 := Lib.hid (clone_c (.slice (some ⟨gA, 0, none⟩) nA cA) A wx (IntsK.of_own (by rw [hAl]; exact hA)) (by omega))
          have HB := Lib.hid hbad
          have HX := Lib.hid (And.intro K (And.intro hA N))
          clear hbad hAl K hA N
          go_wp2_with fail
          refine D1.out.mono ?_
          rintro e y1 ⟨vc, rfl, hc, L1⟩
          rw [HLA.out] at hc
          have hz1 := L1.size
          have HY1 := Lib.hid (And.intro hc L1)
          clear hc L1 D1
          go_wp2_with (at_builtin; refine wpList_app1 el27 rfl (.tmp 150) (.tmp 152) rfl wx.heap.size vc nA (A.map (Value.int .i64)) rfl HY1.out.1 rfl rfl ?e1 ?e2 ?e3 ?e4 ?_)
          case e1 => intro u hu; simp at hu; subst hu; rfl
          case e2 => unfold maxLen; omega
          case e3 => omega
          case e4 => omega
          intro gc cc y2 hc2 L2
          have L02 : Kept (fun _ => False) wx y2 := HY1.out.2.trans L2 (fun i hi h => by have := (ownsRow_block HY1.out.1 h).1; omega)
          have IC : Ints y2 (.slice (some ⟨gc, 0, none⟩) (nA + 1) cc) (A ++ [bd]) := by
            refine IntsK.of_own (base := wx.heap.size) (e := 3) ?_
            rw [List.length_append, List.length_singleton, HLA.out, List.map_append]
            exact hc2
          have D2 := Lib.hid (path_c _ (A ++ [bd]) (by rw [List.length_append, HLA.out]; simp; omega) y2 (HT.out.same (HX.out.1.trans L02 (fun _ _ h => h))) IC)
          have HY2 := Lib.hid L02
          clear hc2 L2 L02 IC HY1
          go_wp2_with fail
          refine D2.out.mono ?_
          rintro e y3 ⟨rfl, L3⟩
          rw [bad_path A bd HB.out]
          have L03 := HY2.out.trans L3 (fun _ _ h => h)
          have hA3 := ownsRow_kept HX.out.2.1 L03 (fun _ _ _ h => h)
          have HY3 := Lib.hid (And.intro L03 hA3)
          have O4 : (y3.alloc (.cells #[.int .i64 bd] 3)).ownsRow y3.heap.size 3 1 (.slice (some ⟨y3.heap.size, 0, none⟩) 1 1) 1 ([bd].map (Value.int .i64)) := World.ownsRow_lit y3 #[.int .i64 bd] 1 (Nat.le_refl _) (by decide) rfl
          have HO4 := Lib.hid O4
          clear L3 L03 hA3 O4 D2 HY2
          go_wp2_with (at_builtin; refine wpList_appRow el27 rfl (.tmp 166) (.tmp 167) rfl y3.heap.size _ 1 ([bd].map (Value.int .i64)) rfl HO4.out gA 0 nA cA rfl A HLA.out ?f1 ?f2 ?f3 ?_)
          case f1 =>
            intro j u hj
            have hj2 := (List.getElem?_eq_some_iff.1 hj).1
            have := ownsRow_kept HY3.out.2 ((Kept.refl (fun _ => False) y3).alloc (.cells #[.int .i64 bd] 3)) (fun _ _ _ h => h)
            rw [Nat.zero_add, this.cellAt j (by have := HLA.out; omega), List.getElem?_map, hj]; rfl
          case f2 => omega
          case f3 => simp
          intro v5 y5 h5 L5
          have L05 : Kept (fun _ => False) y3 y5 := ((Kept.refl _ y3).alloc _).trans L5 (fun i hi h => by simp [Value.ownBlock] at h; omega)
          have I5 : Ints y5 v5 (bd :: A) := by
            refine IntsK.of_own (base := y3.heap.size) (e := 3) ?_
            rw [List.length_cons, HLA.out, Nat.add_comm]
            exact h5
          have L15 := HY3.out.1.trans L05 (fun _ _ h => h)
          have D3 := Lib.hid (att_c v5 (bd :: A) (by rw [List.length_cons, HLA.out]; omega) y5 (HT.out.same (HX.out.1.trans L15 (fun _ _ h => h))) I5)
          have HY5 := Lib.hid L15
          clear h5 L5 L05 I5 L15 HY3 HO4
          go_wp2_with fail
          refine D3.out.mono ?_
          rintro e y6 ⟨rfl, L6⟩
          rw [bad_att A bd HB.out]
          have L16 := HY5.out.trans L6 (fun _ _ h => h)
          have HZ := Lib.hid (And.intro (HX.out.1.trans L16 (fun _ _ h => h)) (And.intro (ownsRow_kept HX.out.2.1 L16 (fun _ _ _ h => h)) (HX.out.2.2.same L16)))
          clear L6 L16 D3 HY5 HX
          go_wp2
          go_roundw
          case rel => exact ⟨k + 1, by omega, by go_num, HZ.out.1, HZ.out.2.1, HZ.out.2.2⟩
          case measure => simp [intOf]; omega
        · obtain rfl : k = 3 := by omega
          have HK := Lib.hid K
          have HW := Lib.hid (works_c wx (HT.out.same K))
          clear K hA N
          go_wp2_with fail
          refine HW.out.mono ?_
          rintro e y1 ⟨rfl, K1⟩
          go_wp2
          go_ret
          exact ⟨rfl, HK.out.trans K1 (fun _ _ h => h)⟩
theorem stops_args (p pb : Option Addr) (cap capb : Nat) (xs ys : List Int) (x : Int) (hm : xs.length ≤ maxLen) (hmb : ys.length ≤ maxLen) (w : World) (T : Tbl w)
    (h : ∀ i x, xs[i]? = some x → (Lit.int .u8 x).wf = true ∧ ∃ b off, p = some ⟨b, off, none⟩ ∧ b < w.heap.size ∧ w.cell? ⟨b, off + i, none⟩ = some (.int .u8 x)) (hx0 : 0 ≤ x) (hx8 : x ≤ 255)
    (hb : ∀ i x, ys[i]? = some x → (Lit.int .u8 x).wf = true ∧ ∃ b off, pb = some ⟨b, off, none⟩ ∧ b < w.heap.size ∧ w.cell? ⟨b, off + i, none⟩ = some (.int .u8 x)) :
    Calls Tryd.prog 9 #[.slice p xs.length cap, .int .u8 x, .slice pb ys.length capb] w fun e w' => e = .returned (.bool true) ∧ Kept (fun _ => False) w w' := by
  obtain ⟨l, hl, hb1, hI⟩ := u8_nats (cap := cap) h
  obtain ⟨r, hr, hb2, hJ⟩ := u8_nats (cap := capb) hb
  exact stops_c _ _ l r x hx0 hx8 w T hI hJ (by omega) (by omega) hb1 hb2
end Go.Proofs.YthpbejdigllmbaaDoor
