/- TrBegW: texts for the statements of this seat: contracts of functions, walks, plain laws. Conditions: none. -/
import Derived.Test.YtfhlllmicobafaaTrCtx
import Derived.Test.YtfhlllmicobafaaTrPm
set_option linter.all false
/- The walk of TraceBegins. -/
namespace Go.Proofs.Ytfhlllmicobafaa
open Go.RowKit
open Tr (Ev Sit SpOk)
/-- One field of one event is stored. -/
theorem rows_store {w : World} {base g c n k i : Nat} {t : List Ev} {x x' : Ev} {v : Value} (h : w.ownsRow base 35 8 (.slice (some ⟨g, 0, none⟩) n c) n (cellsL evC t)) (hn : t.length = n) (hx : t[k]? = some x) (hi : i < 8) (hx' : evC x' = (evC x).set i v) :
    Evs (w.setCell ⟨g, k * 8 + i, none⟩ v) (.slice (some ⟨g, 0, none⟩) n c) (t.set k x') := by
  subst hn
  have hk := (List.getElem?_eq_some_iff.1 hx).1
  have h1 := Rows.of_own (f := evC) evC_len h
  obtain ⟨b, off, cap, q, hcap, hb, hr⟩ := h1.pos (by omega)
  injection q with q1 _ q3
  injection q1 with q1
  injection q1 with q1 q4
  subst q1 q3 q4
  have hsome : (w.cell? ⟨g, k * 8 + i, none⟩).isSome = true := by
    have := hr k x hx i ((evC x)[i]'(by rw [evC_len]; exact hi)) (List.getElem?_eq_getElem _)
    rw [Nat.zero_add] at this
    rw [this]; rfl
  refine .inr ⟨g, 0, c, by rw [List.length_set], by rw [List.length_set]; exact hcap, by simpa using hb, fun j y hy m u hu => ?_⟩
  have hm : m < 8 := by have := (List.getElem?_eq_some_iff.1 hu).1; rwa [evC_len] at this
  rw [Nat.zero_add, cell_set _ _ _ _ hsome]
  by_cases hjk : j = k
  · subst hjk
    rw [List.getElem?_set_self hk] at hy
    injection hy with hy
    subst hy
    rw [hx'] at hu
    by_cases hmi : m = i
    · subst hmi
      rw [List.getElem?_set_self (by rw [evC_len]; exact hm)] at hu
      rw [if_pos rfl]; exact hu
    · rw [List.getElem?_set_ne (fun q => hmi q.symm)] at hu
      rw [if_neg (by intro q; injection q with _ q; omega)]
      have := hr j x hx m u hu
      rwa [Nat.zero_add] at this
  · rw [List.getElem?_set_ne (fun q => hjk q.symm)] at hy
    rw [if_neg (by intro q; injection q with _ q; omega)]
    have := hr j y hy m u hu
    rwa [Nat.zero_add] at this
theorem evw_set {t : List Ev} (h : EvW t) {k : Nat} {x : Ev} (hx : Wf x.run) : EvW (t.set k x) := fun y hy => by
  rcases List.mem_or_eq_of_mem_set hy with hy | hy
  · exact h y hy
  · rw [hy]; exact hx
/-- What is asked of the spoilt list. -/
structure Spoilt (v : Value) (k : Nat) (want : Int) (w W : World) : Prop where
  chk : ∀ W', Kept (fun _ => False) W W' → Calls Try.prog 21 #[v, .int .i64 5] W' fun e w' => e = .returned (.tuple #[.int .i64 k, .int .i64 want]) ∧ Kept (fun _ => False) W' w'
  run : ∀ W', Kept (fun _ => False) W W' → Calls Try.prog 15 #[v, .int .i64 0] W' fun e w' => ∃ (u : Value) (c : Int), e = .returned (.tuple #[u, .int .i64 c]) ∧ (want = 3 ∨ c = want ∧ ∃ a cap, u = .slice a 0 cap) ∧ Kept (fun _ => False) W' w'
  kept : Kept (fun _ => False) w W
theorem spoilt {w0 W : World} {v : Value} {t : List Ev} {k : Nat} {x : Ev} {want : Int} (hs : SpOk t k x want) (hl : t.length ≤ 200) (h : Evs W v (t.set k x)) (hw : EvW (t.set k x)) (K : Kept (fun _ => False) w0 W) : Spoilt v k want w0 W where
  chk := fun W' K' => (check_c (h.same K') hw (by rw [List.length_set]; omega) 5).mono fun e w' q => by rw [hs.c] at q; exact q
  run := fun W' K' => (running_c (h.same K') hw (by rw [List.length_set]; omega) 0).mono fun e w' q => by
    obtain ⟨u, q1, q2⟩ := q
    refine ⟨u, _, q1, ?_, q2.2.2⟩
    rcases hs.r with hr | hr
    · exact .inl hr
    · right
      have he : wrongE (t.set k x) 0 0 (t.set k x).length = want := by unfold wrongE; rw [hr, if_pos hs.n]
      refine ⟨he, ?_⟩
      rw [he, if_neg hs.n] at q2
      obtain ⟨p, c, e⟩ := q2.val
      exact ⟨p, c, e⟩
  kept := K
set_option maxRecDepth 100000 in
set_option maxHeartbeats 4000000 in
theorem begins_w {w : World} {v : Value} {l : List Int} (h : IntsK .u32 w v l) (hs : ∃ p c, v = .slice p l.length c ∧ l.length ≤ c) (hl : l.length ≤ maxLen) (hu : Tr.U32 l) (which how : Int) (hw0 : 0 ≤ which) (hw1 : which ≤ 65535) (hh0 : 0 ≤ how) (hh1 : how ≤ 255) :
    Calls Try.prog 6 #[v, .int .u16 which, .int .u8 how] w (Tru w) := by
  have HM := Lib.hid (made_o h hs hl hu)
  obtain ⟨hok, hlen, hsm⟩ := Tr.made_ok hu
  generalize Tr.made l = t at HM hok hlen hsm
  have HOK := Lib.hid hok
  have HSM := Lib.hid hsm
  have HW : Hid (EvW t) := Lib.hid (small_w hsm)
  have HC : Hid (Tr.check 5 t = (0, 0)) := Lib.hid (by unfold Tr.check; rw [if_neg (by omega), Tr.chkFrom_of_ok hok])
  clear h hs hl hu hok hsm
  go_enter Try.func6, Try.ntmps6
  go_wp2_with (go_at_call 29; fail)
  refine HM.out.mono ?_
  rintro e w1 ⟨vt, rfl, ht⟩
  have HO := Lib.hid ht.1
  have HK1 := Lib.hid ht.2.2
  have HC1 := Lib.hid (check_c (ht.rows evC_len) HW.out (by omega) 5)
  rw [HC.out] at HC1
  clear ht HM HC l
  go_wp2_with (go_at_call 21; fail)
  refine HC1.out.mono ?_
  rintro e w2 ⟨rfl, K2⟩
  have HK2 := Lib.hid (HK1.out.trans K2 (fun _ _ h => h))
  have HO2 := Lib.hid (ownsRow_kept HO.out K2 (fun _ _ _ h => h))
  clear K2 HO HK1 HC1
  obtain ⟨N, hN⟩ : ∃ N : Nat, t.length = N := ⟨_, rfl⟩
  have HN := Lib.hid hN
  rw [hN] at HO2 hlen
  clear hN
  by_cases h0 : N = 0
  · obtain ⟨a, c, hv⟩ : ∃ a c, vt = .slice a 0 c := by
      rcases HO2.out.2 with ⟨q1, -⟩ | ⟨g, cap, cur, q1, -⟩
      · exact ⟨_, _, q1⟩
      · rw [h0] at q1; exact ⟨_, _, q1⟩
    subst hv
    go_wp2_with (go_at_call 14; fail)
    refine (works_c _).mono ?_
    rintro e w6 ⟨rfl, K6⟩
    have HK6 := Lib.hid (HK2.out.trans K6 (fun _ _ h => h))
    clear K6
    go_wp2
    go_ret
    exact ⟨rfl, HK6.out⟩
  · obtain ⟨g, c, hv, hNc⟩ : ∃ g c, vt = .slice (some ⟨g, 0, none⟩) N c ∧ N ≤ c := by
      rcases HO2.out.2 with ⟨-, q2⟩ | ⟨g, cap, cur, q1, _, _, q2, -⟩
      · omega
      · exact ⟨g, cap, q1, q2⟩
    subst hv
    obtain ⟨k, hk⟩ : ∃ k : Nat, which % (N : Int) = (k : Int) := ⟨(which % (N : Int)).toNat, by have := Int.emod_nonneg which (show (N : Int) ≠ 0 by omega); omega⟩
    have hkN : k < N := by have := Int.emod_lt_of_pos which (show (0 : Int) < (N : Int) by omega); omega
    obtain ⟨x, hx⟩ : ∃ x, t[k]? = some x := ⟨_, List.getElem?_eq_getElem (by rw [HN.out]; exact hkN)⟩
    have HX := Lib.hid hx
    have HS : Hid (Sit t k x) := Lib.hid ⟨HOK.out, by rw [HN.out]; exact hlen, HSM.out, hx⟩
    have HCK := Lib.hid (check_c ((Rows.of_own (f := evC) evC_len (by rw [HN.out]; exact HO2.out)).take (k := k) (by rw [HN.out]; omega)) (fun y hy => HW.out y (List.mem_of_mem_take hy)) (by rw [List.length_take, HN.out]; omega) 5)
    have hck : Tr.check 5 (t.take k) = (0, 0) := by unfold Tr.check; rw [if_neg (by omega), Tr.chkFrom_of_ok (HOK.out.take k)]
    rw [hck] at HCK
    have kk0 : (0 : Int) ≤ (k : Int) := by omega
    have kk1 : (k : Int) < (N : Int) := by omega
    have kk2 : (k : Int) ≤ (c : Int) := by omega
    clear hck hx
    go_wp2_with (go_at_call 21; fail)
    refine HCK.out.mono ?_
    rintro e w3 ⟨rfl, K3⟩
    have HK3 := Lib.hid (HK2.out.trans K3 (fun _ _ h => h))
    have HO3 := Lib.hid (ownsRow_kept HO2.out K3 (fun _ _ _ h => h))
    clear K3 HO2 HK2 HCK
    have hb1 : w.heap.size ≤ g := (ownsRow_block HO3.out rfl).1
    have hb2 : g < w3.heap.size := (ownsRow_block HO3.out rfl).2
    have fz : ∀ o, w3.frozen? ⟨g, o, none⟩ = false := fun o => ownsRow_frozen HO3.out o
    have hrow : RowsAt evC 8 w3 g 0 t := by
      have h1 := Rows.of_own (f := evC) evC_len (xs := t) (by rw [HN.out]; exact HO3.out)
      obtain ⟨b, o2, c2, q, -, -, q2⟩ := h1.pos (by rw [HN.out]; omega)
      injection q with q1
      injection q1 with q1
      injection q1 with q1 q3
      subst q1 q3
      exact q2
    have HROW := Lib.hid hrow
    obtain ⟨x0, x1, x2, x3, x4, x5, x6, x7⟩ := hrow.ev HX.out
    rw [Nat.zero_add] at x0 x1 x2 x3 x4 x5 x6 x7
    have hsx := HS.out.f
    obtain ⟨hk1, hk8, -, hsx⟩ := hsx
    unfold Tr.Small at hsx
    have HSTO : Hid (∀ (i : Nat) (u : Value) (x' : Ev) (want : Int), i < 8 → evC x' = (evC x).set i u → Wf x'.run → SpOk t k x' want → Spoilt (.slice (some ⟨g, 0, none⟩) N c) k want w (w3.setCell ⟨g, k * 8 + i, none⟩ u)) := Lib.hid fun i u x' want hi he hw' hs' =>
      spoilt hs' (by rw [HN.out]; exact hlen) (rows_store HO3.out HN.out HX.out hi he) (evw_set HW.out hw') (HK3.out.trans (T := fun b => b = g) ((Kept.refl _ _).setCell _ _ (fun _ => rfl)) (fun b hb (q : b = g) => by omega))
    clear hrow HO3
    have hm : how % 8 = 0 ∨ how % 8 = 1 ∨ how % 8 = 2 ∨ how % 8 = 3 ∨ how % 8 = 4 ∨ how % 8 = 5 ∨ how % 8 = 6 ∨ how % 8 = 7 := by omega
    rcases hm with hm | hm | hm | hm | hm | hm | hm | hm
    · have hm2 := hm
      have HSP := Lib.hid (HSTO.out 1 (.int .i64 (-1)) { x with t := -1 } 14 (by omega) rfl (show Wf x.run from Wf.of (by omega) (by omega)) HS.out.sp0)
      clear HSTO
      go_wp2_with (go_at_call 21; fail)
      refine (HSP.out.chk _ (Kept.refl _ _)).mono ?_
      rintro e w4 ⟨rfl, K4⟩
      have HK4 := Lib.hid (HSP.out.kept.trans K4 (fun _ _ h => h))
      have HR4 := Lib.hid (HSP.out.run _ K4)
      clear K4 HSP x0 x1 x2 x3 x4 x5 x6 x7 fz
      go_wp2_with (go_at_call 15; fail)
      refine HR4.out.mono ?_
      rintro e w5 ⟨u, cc, rfl, hor, K5⟩
      obtain ⟨rfl, pa, pc, rfl⟩ : cc = 14 ∧ ∃ a cap, u = .slice a 0 cap := by
        rcases hor with q | q
        · omega
        · exact q
      have HK5 := Lib.hid (HK4.out.trans K5 (fun _ _ h => h))
      clear K5 HR4
      go_wp2_with (go_at_call 14; fail)
      refine (works_c _).mono ?_
      rintro e w6 ⟨rfl, K6⟩
      have HK6 := Lib.hid (HK5.out.trans K6 (fun _ _ h => h))
      clear K6
      go_wp2
      go_ret
      exact ⟨rfl, HK6.out⟩
    · have hm2 := hm
      have HSP := Lib.hid (HSTO.out 0 (.int .i64 9) { x with kind := 9 } 2 (by omega) rfl (show Wf x.run from Wf.of (by omega) (by omega)) HS.out.sp1)
      clear HSTO
      go_wp2_with (go_at_call 21; fail)
      refine (HSP.out.chk _ (Kept.refl _ _)).mono ?_
      rintro e w4 ⟨rfl, K4⟩
      have HK4 := Lib.hid (HSP.out.kept.trans K4 (fun _ _ h => h))
      have HR4 := Lib.hid (HSP.out.run _ K4)
      clear K4 HSP x0 x1 x2 x3 x4 x5 x6 x7 fz
      go_wp2_with (go_at_call 15; fail)
      refine HR4.out.mono ?_
      rintro e w5 ⟨u, cc, rfl, hor, K5⟩
      obtain ⟨rfl, pa, pc, rfl⟩ : cc = 2 ∧ ∃ a cap, u = .slice a 0 cap := by
        rcases hor with q | q
        · omega
        · exact q
      have HK5 := Lib.hid (HK4.out.trans K5 (fun _ _ h => h))
      clear K5 HR4
      go_wp2_with (go_at_call 14; fail)
      refine (works_c _).mono ?_
      rintro e w6 ⟨rfl, K6⟩
      have HK6 := Lib.hid (HK5.out.trans K6 (fun _ _ h => h))
      clear K6
      go_wp2
      go_ret
      exact ⟨rfl, HK6.out⟩
    · have hm2 := hm
      by_cases h6 : x.kind = 6
      · have b1 : (x.kind == 6) = true := by simpa using h6
        go_wp2_with (go_at_call 14; fail)
        refine (works_c _).mono ?_
        rintro e w6 ⟨rfl, K6⟩
        have HK6 := Lib.hid (HK3.out.trans K6 (fun _ _ h => h))
        clear K6
        go_wp2
        go_ret
        exact ⟨rfl, HK6.out⟩
      · have b1 : (x.kind == 6) = false := by simpa using h6
        have HSP := Lib.hid (HSTO.out 2 (.int .i64 5) { x with job := 5 } 3 (by omega) rfl (show Wf x.run from Wf.of (by omega) (by omega)) (HS.out.sp2 h6))
        clear HSTO
        go_wp2_with (go_at_call 21; fail)
        refine (HSP.out.chk _ (Kept.refl _ _)).mono ?_
        rintro e w4 ⟨rfl, K4⟩
        have HK4 := Lib.hid (HSP.out.kept.trans K4 (fun _ _ h => h))
        have HR4 := Lib.hid (HSP.out.run _ K4)
        clear K4 HSP x0 x1 x2 x3 x4 x5 x6 x7 fz
        go_wp2_with (go_at_call 15; fail)
        refine HR4.out.mono ?_
        rintro e w5 ⟨u, cc, rfl, -, K5⟩
        have HK5 := Lib.hid (HK4.out.trans K5 (fun _ _ h => h))
        clear K5 HR4
        go_wp2_with (go_at_call 14; fail)
        refine (works_c _).mono ?_
        rintro e w6 ⟨rfl, K6⟩
        have HK6 := Lib.hid (HK5.out.trans K6 (fun _ _ h => h))
        clear K6
        go_wp2
        go_ret
        exact ⟨rfl, HK6.out⟩
    · have hm2 := hm
      by_cases hk0 : k = 0
      · subst hk0
        go_wp2_with (go_at_call 14; fail)
        refine (works_c _).mono ?_
        rintro e w6 ⟨rfl, K6⟩
        have HK6 := Lib.hid (HK3.out.trans K6 (fun _ _ h => h))
        clear K6
        go_wp2
        go_ret
        exact ⟨rfl, HK6.out⟩
      · obtain ⟨k', rfl⟩ : ∃ k', k = k' + 1 := ⟨k - 1, by omega⟩
        obtain ⟨y, hy⟩ : ∃ y, t[k']? = some y := ⟨_, List.getElem?_eq_getElem (by rw [HN.out]; omega)⟩
        obtain ⟨s1, s2, s3, s4⟩ := HS.out.sp3 hy
        have HS3 := Lib.hid s3
        have HS4 := Lib.hid s4
        have y1 := (HROW.out.ev hy).c1
        rw [Nat.zero_add] at y1
        have ky0 : (0 : Int) ≤ ((k' + 1 : Nat) : Int) - 1 := by omega
        have ky1 : ((k' + 1 : Nat) : Int) - 1 = (k' : Int) := by omega
        have wy : wrap64 (y.t - 1) = y.t - 1 := IntWalk.wrap64_in _ (by omega)
        clear s3 s4 hy
        by_cases hc : x.kind ≤ 5
        · by_cases hd : y.t - 1 < x.due
          · have hd2 := hd
            have HSP := Lib.hid (HSTO.out 1 (.int .i64 (y.t - 1)) { x with t := y.t - 1 } 2 (by omega) rfl (show Wf x.run from Wf.of (by omega) (by omega)) (HS3.out ⟨hc, hd⟩))
            clear HSTO
            have hsm : (w3.cell? ⟨g, (k' + 1) * 8 + 1, none⟩).isSome = true := by rw [x1]; rfl
            have z0 : (w3.setCell ⟨g, (k' + 1) * 8 + 1, none⟩ (.int .i64 (y.t - 1))).cell? ⟨g, (k' + 1) * 8, none⟩ = some (.int .i64 x.kind) := by
              rw [cell_set _ _ _ _ hsm, if_neg (by intro q; injection q with _ q; omega)]; exact x0
            have z3 : (w3.setCell ⟨g, (k' + 1) * 8 + 1, none⟩ (.int .i64 (y.t - 1))).cell? ⟨g, (k' + 1) * 8 + 3, none⟩ = some (.int .i64 x.due) := by
              rw [cell_set _ _ _ _ hsm, if_neg (by intro q; injection q with _ q; omega)]; exact x3
            have z1 : (w3.setCell ⟨g, (k' + 1) * 8 + 1, none⟩ (.int .i64 (y.t - 1))).cell? ⟨g, (k' + 1) * 8 + 1, none⟩ = some (.int .i64 (y.t - 1)) := by
              rw [cell_set _ _ _ _ hsm, if_pos rfl]
            go_wp2
            clear x0 x1 x2 x3 x4 x5 x6 x7 fz hsm
            go_quiet (fail)
            clear z0 z1 z3
            go_wp2_with (go_at_call 21; fail)
            refine (HSP.out.chk _ ((Kept.refl _ _).drewN _)).mono ?_
            rintro e w4 ⟨rfl, K4a⟩
            have K4 := ((Kept.refl (fun _ => False) (w3.setCell ⟨g, (k' + 1) * 8 + 1, none⟩ (.int .i64 (y.t - 1)))).drewN _).trans K4a (fun _ _ h => h)
            clear K4a
            have HK4 := Lib.hid (HSP.out.kept.trans K4 (fun _ _ h => h))
            have HR4 := Lib.hid (HSP.out.run _ K4)
            clear K4 HSP
            go_wp2_with (go_at_call 15; fail)
            refine HR4.out.mono ?_
            rintro e w5 ⟨u, cc, rfl, hor, K5⟩
            obtain ⟨rfl, pa, pc, rfl⟩ : cc = 2 ∧ ∃ a cap, u = .slice a 0 cap := by
              rcases hor with q | q
              · omega
              · exact q
            have HK5 := Lib.hid (HK4.out.trans K5 (fun _ _ h => h))
            clear K5 HR4
            go_wp2_with (go_at_call 14; fail)
            refine (works_c _).mono ?_
            rintro e w6 ⟨rfl, K6⟩
            have HK6 := Lib.hid (HK5.out.trans K6 (fun _ _ h => h))
            clear K6
            go_wp2
            go_ret
            exact ⟨rfl, HK6.out⟩
          · have hd2 := hd
            have HSP := Lib.hid (HSTO.out 1 (.int .i64 (y.t - 1)) { x with t := y.t - 1 } 8 (by omega) rfl (show Wf x.run from Wf.of (by omega) (by omega)) (HS4.out fun q => hd q.2))
            clear HSTO
            have hsm : (w3.cell? ⟨g, (k' + 1) * 8 + 1, none⟩).isSome = true := by rw [x1]; rfl
            have z0 : (w3.setCell ⟨g, (k' + 1) * 8 + 1, none⟩ (.int .i64 (y.t - 1))).cell? ⟨g, (k' + 1) * 8, none⟩ = some (.int .i64 x.kind) := by
              rw [cell_set _ _ _ _ hsm, if_neg (by intro q; injection q with _ q; omega)]; exact x0
            have z3 : (w3.setCell ⟨g, (k' + 1) * 8 + 1, none⟩ (.int .i64 (y.t - 1))).cell? ⟨g, (k' + 1) * 8 + 3, none⟩ = some (.int .i64 x.due) := by
              rw [cell_set _ _ _ _ hsm, if_neg (by intro q; injection q with _ q; omega)]; exact x3
            have z1 : (w3.setCell ⟨g, (k' + 1) * 8 + 1, none⟩ (.int .i64 (y.t - 1))).cell? ⟨g, (k' + 1) * 8 + 1, none⟩ = some (.int .i64 (y.t - 1)) := by
              rw [cell_set _ _ _ _ hsm, if_pos rfl]
            go_wp2
            clear x0 x1 x2 x3 x4 x5 x6 x7 fz hsm
            go_quiet (fail)
            clear z0 z1 z3
            go_wp2_with (go_at_call 21; fail)
            refine (HSP.out.chk _ ((Kept.refl _ _).drewN _)).mono ?_
            rintro e w4 ⟨rfl, K4a⟩
            have K4 := ((Kept.refl (fun _ => False) (w3.setCell ⟨g, (k' + 1) * 8 + 1, none⟩ (.int .i64 (y.t - 1)))).drewN _).trans K4a (fun _ _ h => h)
            clear K4a
            have HK4 := Lib.hid (HSP.out.kept.trans K4 (fun _ _ h => h))
            have HR4 := Lib.hid (HSP.out.run _ K4)
            clear K4 HSP
            go_wp2_with (go_at_call 15; fail)
            refine HR4.out.mono ?_
            rintro e w5 ⟨u, cc, rfl, hor, K5⟩
            obtain ⟨rfl, pa, pc, rfl⟩ : cc = 8 ∧ ∃ a cap, u = .slice a 0 cap := by
              rcases hor with q | q
              · omega
              · exact q
            have HK5 := Lib.hid (HK4.out.trans K5 (fun _ _ h => h))
            clear K5 HR4
            go_wp2_with (go_at_call 14; fail)
            refine (works_c _).mono ?_
            rintro e w6 ⟨rfl, K6⟩
            have HK6 := Lib.hid (HK5.out.trans K6 (fun _ _ h => h))
            clear K6
            go_wp2
            go_ret
            exact ⟨rfl, HK6.out⟩
        · have b5 : decide (x.kind ≤ 5) = false := decide_eq_false hc
          have HSP := Lib.hid (HSTO.out 1 (.int .i64 (y.t - 1)) { x with t := y.t - 1 } 8 (by omega) rfl (show Wf x.run from Wf.of (by omega) (by omega)) (HS4.out fun q => hc q.1))
          clear HSTO
          have hsm : (w3.cell? ⟨g, (k' + 1) * 8 + 1, none⟩).isSome = true := by rw [x1]; rfl
          have z0 : (w3.setCell ⟨g, (k' + 1) * 8 + 1, none⟩ (.int .i64 (y.t - 1))).cell? ⟨g, (k' + 1) * 8, none⟩ = some (.int .i64 x.kind) := by
            rw [cell_set _ _ _ _ hsm, if_neg (by intro q; injection q with _ q; omega)]; exact x0
          have z3 : (w3.setCell ⟨g, (k' + 1) * 8 + 1, none⟩ (.int .i64 (y.t - 1))).cell? ⟨g, (k' + 1) * 8 + 3, none⟩ = some (.int .i64 x.due) := by
            rw [cell_set _ _ _ _ hsm, if_neg (by intro q; injection q with _ q; omega)]; exact x3
          have z1 : (w3.setCell ⟨g, (k' + 1) * 8 + 1, none⟩ (.int .i64 (y.t - 1))).cell? ⟨g, (k' + 1) * 8 + 1, none⟩ = some (.int .i64 (y.t - 1)) := by
            rw [cell_set _ _ _ _ hsm, if_pos rfl]
          go_wp2
          clear x0 x1 x2 x3 x4 x5 x6 x7 fz hsm
          go_quiet (fail)
          clear z0 z1 z3
          go_wp2_with (go_at_call 21; fail)
          refine (HSP.out.chk _ ((Kept.refl _ _).drewN _)).mono ?_
          rintro e w4 ⟨rfl, K4a⟩
          have K4 := ((Kept.refl (fun _ => False) (w3.setCell ⟨g, (k' + 1) * 8 + 1, none⟩ (.int .i64 (y.t - 1)))).drewN _).trans K4a (fun _ _ h => h)
          clear K4a
          have HK4 := Lib.hid (HSP.out.kept.trans K4 (fun _ _ h => h))
          have HR4 := Lib.hid (HSP.out.run _ K4)
          clear K4 HSP
          go_wp2_with (go_at_call 15; fail)
          refine HR4.out.mono ?_
          rintro e w5 ⟨u, cc, rfl, hor, K5⟩
          obtain ⟨rfl, pa, pc, rfl⟩ : cc = 8 ∧ ∃ a cap, u = .slice a 0 cap := by
            rcases hor with q | q
            · omega
            · exact q
          have HK5 := Lib.hid (HK4.out.trans K5 (fun _ _ h => h))
          clear K5 HR4
          go_wp2_with (go_at_call 14; fail)
          refine (works_c _).mono ?_
          rintro e w6 ⟨rfl, K6⟩
          have HK6 := Lib.hid (HK5.out.trans K6 (fun _ _ h => h))
          clear K6
          go_wp2
          go_ret
          exact ⟨rfl, HK6.out⟩
    · have hm2 := hm
      by_cases h3 : x.kind ≤ 3
      · have wr1 : wrap64 (x.run + 1000) = x.run + 1000 := IntWalk.wrap64_in _ (by omega)
        have HSP := Lib.hid (HSTO.out 5 (.int .i64 (x.run + 1000)) { x with run := x.run + 1000 } 8 (by omega) rfl (show Wf (x.run + 1000) from Wf.of (by omega) (by omega)) (HS.out.sp4 h3))
        clear HSTO
        go_wp2_with (go_at_call 21; fail)
        refine (HSP.out.chk _ (Kept.refl _ _)).mono ?_
        rintro e w4 ⟨rfl, K4⟩
        have HK4 := Lib.hid (HSP.out.kept.trans K4 (fun _ _ h => h))
        have HR4 := Lib.hid (HSP.out.run _ K4)
        clear K4 HSP x0 x1 x2 x3 x4 x5 x6 x7 fz
        go_wp2_with (go_at_call 15; fail)
        refine HR4.out.mono ?_
        rintro e w5 ⟨u, cc, rfl, hor, K5⟩
        obtain ⟨rfl, pa, pc, rfl⟩ : cc = 8 ∧ ∃ a cap, u = .slice a 0 cap := by
          rcases hor with q | q
          · omega
          · exact q
        have HK5 := Lib.hid (HK4.out.trans K5 (fun _ _ h => h))
        clear K5 HR4
        go_wp2_with (go_at_call 14; fail)
        refine (works_c _).mono ?_
        rintro e w6 ⟨rfl, K6⟩
        have HK6 := Lib.hid (HK5.out.trans K6 (fun _ _ h => h))
        clear K6
        go_wp2
        go_ret
        exact ⟨rfl, HK6.out⟩
      · have b1 : ¬ x.kind ≤ 3 := h3
        go_wp2_with (go_at_call 14; fail)
        refine (works_c _).mono ?_
        rintro e w6 ⟨rfl, K6⟩
        have HK6 := Lib.hid (HK3.out.trans K6 (fun _ _ h => h))
        clear K6
        go_wp2
        go_ret
        exact ⟨rfl, HK6.out⟩
    · have hm2 := hm
      by_cases h2 : x.kind = 2
      · have b1 : (x.kind != 2) = false := by simpa using h2
        have wr1 : wrap64 (x.due - 1) = x.due - 1 := IntWalk.wrap64_in _ (by omega)
        have hdd := (HS.out.sp5 (.inl h2)).1
        have HSP := Lib.hid (HSTO.out 3 (.int .i64 (x.due - 1)) { x with due := x.due - 1 } 8 (by omega) rfl (show Wf x.run from Wf.of (by omega) (by omega)) (HS.out.sp5 (.inl h2)).2)
        clear HSTO
        go_wp2_with (go_at_call 21; fail)
        refine (HSP.out.chk _ (Kept.refl _ _)).mono ?_
        rintro e w4 ⟨rfl, K4⟩
        have HK4 := Lib.hid (HSP.out.kept.trans K4 (fun _ _ h => h))
        have HR4 := Lib.hid (HSP.out.run _ K4)
        clear K4 HSP x0 x1 x2 x3 x4 x5 x6 x7 fz
        go_wp2_with (go_at_call 15; fail)
        refine HR4.out.mono ?_
        rintro e w5 ⟨u, cc, rfl, hor, K5⟩
        obtain ⟨rfl, pa, pc, rfl⟩ : cc = 8 ∧ ∃ a cap, u = .slice a 0 cap := by
          rcases hor with q | q
          · omega
          · exact q
        have HK5 := Lib.hid (HK4.out.trans K5 (fun _ _ h => h))
        clear K5 HR4
        go_wp2_with (go_at_call 14; fail)
        refine (works_c _).mono ?_
        rintro e w6 ⟨rfl, K6⟩
        have HK6 := Lib.hid (HK5.out.trans K6 (fun _ _ h => h))
        clear K6
        go_wp2
        go_ret
        exact ⟨rfl, HK6.out⟩
      · have b1 : (x.kind != 2) = true := by simpa using h2
        by_cases h3 : x.kind = 3
        · have b2 : (x.kind != 3) = false := by simpa using h3
          have wr1 : wrap64 (x.due - 1) = x.due - 1 := IntWalk.wrap64_in _ (by omega)
          have hdd := (HS.out.sp5 (.inr h3)).1
          have HSP := Lib.hid (HSTO.out 3 (.int .i64 (x.due - 1)) { x with due := x.due - 1 } 8 (by omega) rfl (show Wf x.run from Wf.of (by omega) (by omega)) (HS.out.sp5 (.inr h3)).2)
          clear HSTO
          go_wp2_with (go_at_call 21; fail)
          refine (HSP.out.chk _ (Kept.refl _ _)).mono ?_
          rintro e w4 ⟨rfl, K4⟩
          have HK4 := Lib.hid (HSP.out.kept.trans K4 (fun _ _ h => h))
          have HR4 := Lib.hid (HSP.out.run _ K4)
          clear K4 HSP x0 x1 x2 x3 x4 x5 x6 x7 fz
          go_wp2_with (go_at_call 15; fail)
          refine HR4.out.mono ?_
          rintro e w5 ⟨u, cc, rfl, hor, K5⟩
          obtain ⟨rfl, pa, pc, rfl⟩ : cc = 8 ∧ ∃ a cap, u = .slice a 0 cap := by
            rcases hor with q | q
            · omega
            · exact q
          have HK5 := Lib.hid (HK4.out.trans K5 (fun _ _ h => h))
          clear K5 HR4
          go_wp2_with (go_at_call 14; fail)
          refine (works_c _).mono ?_
          rintro e w6 ⟨rfl, K6⟩
          have HK6 := Lib.hid (HK5.out.trans K6 (fun _ _ h => h))
          clear K6
          go_wp2
          go_ret
          exact ⟨rfl, HK6.out⟩
        · have b2 : (x.kind != 3) = true := by simpa using h3
          go_wp2_with (go_at_call 14; fail)
          refine (works_c _).mono ?_
          rintro e w6 ⟨rfl, K6⟩
          have HK6 := Lib.hid (HK3.out.trans K6 (fun _ _ h => h))
          clear K6
          go_wp2
          go_ret
          exact ⟨rfl, HK6.out⟩
    · have hm2 := hm
      have wr1 : wrap64 (x.why + 20) = x.why + 20 := IntWalk.wrap64_in _ (by omega)
      have HSP := Lib.hid (HSTO.out 6 (.int .i64 (x.why + 20)) { x with why := x.why + 20 } 2 (by omega) rfl (show Wf x.run from Wf.of (by omega) (by omega)) HS.out.sp6)
      clear HSTO
      go_wp2_with (go_at_call 21; fail)
      refine (HSP.out.chk _ (Kept.refl _ _)).mono ?_
      rintro e w4 ⟨rfl, K4⟩
      have HK4 := Lib.hid (HSP.out.kept.trans K4 (fun _ _ h => h))
      have HR4 := Lib.hid (HSP.out.run _ K4)
      clear K4 HSP x0 x1 x2 x3 x4 x5 x6 x7 fz
      go_wp2_with (go_at_call 15; fail)
      refine HR4.out.mono ?_
      rintro e w5 ⟨u, cc, rfl, hor, K5⟩
      obtain ⟨rfl, pa, pc, rfl⟩ : cc = 2 ∧ ∃ a cap, u = .slice a 0 cap := by
        rcases hor with q | q
        · omega
        · exact q
      have HK5 := Lib.hid (HK4.out.trans K5 (fun _ _ h => h))
      clear K5 HR4
      go_wp2_with (go_at_call 14; fail)
      refine (works_c _).mono ?_
      rintro e w6 ⟨rfl, K6⟩
      have HK6 := Lib.hid (HK5.out.trans K6 (fun _ _ h => h))
      clear K6
      go_wp2
      go_ret
      exact ⟨rfl, HK6.out⟩
    · have hm2 := hm
      by_cases h2 : x.kind = 2
      · have b1 : (x.kind != 2) = false := by simpa using h2
        have wr1 : wrap64 (x.att + 1) = x.att + 1 := IntWalk.wrap64_in _ (by omega)
        have HSP := Lib.hid (HSTO.out 4 (.int .i64 (x.att + 1)) { x with att := x.att + 1 } 8 (by omega) rfl (show Wf x.run from Wf.of (by omega) (by omega)) (HS.out.sp7 (.inl h2)))
        clear HSTO
        go_wp2_with (go_at_call 21; fail)
        refine (HSP.out.chk _ (Kept.refl _ _)).mono ?_
        rintro e w4 ⟨rfl, K4⟩
        have HK4 := Lib.hid (HSP.out.kept.trans K4 (fun _ _ h => h))
        have HR4 := Lib.hid (HSP.out.run _ K4)
        clear K4 HSP x0 x1 x2 x3 x4 x5 x6 x7 fz
        go_wp2_with (go_at_call 15; fail)
        refine HR4.out.mono ?_
        rintro e w5 ⟨u, cc, rfl, hor, K5⟩
        obtain ⟨rfl, pa, pc, rfl⟩ : cc = 8 ∧ ∃ a cap, u = .slice a 0 cap := by
          rcases hor with q | q
          · omega
          · exact q
        have HK5 := Lib.hid (HK4.out.trans K5 (fun _ _ h => h))
        clear K5 HR4
        go_wp2_with (go_at_call 14; fail)
        refine (works_c _).mono ?_
        rintro e w6 ⟨rfl, K6⟩
        have HK6 := Lib.hid (HK5.out.trans K6 (fun _ _ h => h))
        clear K6
        go_wp2
        go_ret
        exact ⟨rfl, HK6.out⟩
      · have b1 : (x.kind != 2) = true := by simpa using h2
        by_cases h3 : x.kind = 3
        · have b2 : (x.kind != 3) = false := by simpa using h3
          have wr1 : wrap64 (x.att + 1) = x.att + 1 := IntWalk.wrap64_in _ (by omega)
          have HSP := Lib.hid (HSTO.out 4 (.int .i64 (x.att + 1)) { x with att := x.att + 1 } 8 (by omega) rfl (show Wf x.run from Wf.of (by omega) (by omega)) (HS.out.sp7 (.inr h3)))
          clear HSTO
          go_wp2_with (go_at_call 21; fail)
          refine (HSP.out.chk _ (Kept.refl _ _)).mono ?_
          rintro e w4 ⟨rfl, K4⟩
          have HK4 := Lib.hid (HSP.out.kept.trans K4 (fun _ _ h => h))
          have HR4 := Lib.hid (HSP.out.run _ K4)
          clear K4 HSP x0 x1 x2 x3 x4 x5 x6 x7 fz
          go_wp2_with (go_at_call 15; fail)
          refine HR4.out.mono ?_
          rintro e w5 ⟨u, cc, rfl, hor, K5⟩
          obtain ⟨rfl, pa, pc, rfl⟩ : cc = 8 ∧ ∃ a cap, u = .slice a 0 cap := by
            rcases hor with q | q
            · omega
            · exact q
          have HK5 := Lib.hid (HK4.out.trans K5 (fun _ _ h => h))
          clear K5 HR4
          go_wp2_with (go_at_call 14; fail)
          refine (works_c _).mono ?_
          rintro e w6 ⟨rfl, K6⟩
          have HK6 := Lib.hid (HK5.out.trans K6 (fun _ _ h => h))
          clear K6
          go_wp2
          go_ret
          exact ⟨rfl, HK6.out⟩
        · have b2 : (x.kind != 3) = true := by simpa using h3
          go_wp2_with (go_at_call 14; fail)
          refine (works_c _).mono ?_
          rintro e w6 ⟨rfl, K6⟩
          have HK6 := Lib.hid (HK3.out.trans K6 (fun _ _ h => h))
          clear K6
          go_wp2
          go_ret
          exact ⟨rfl, HK6.out⟩
end Go.Proofs.Ytfhlllmicobafaa
