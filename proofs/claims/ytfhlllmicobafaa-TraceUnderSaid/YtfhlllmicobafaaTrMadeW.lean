/- TrMadeW: texts for the statements of this seat: contracts of functions, walks, plain laws. Conditions: none. -/
import Derived.Deep.Cut
import Derived.Deep.CutRange
import Derived.Deep.DeepCutAuto
import Derived.Test.YtfhlllmicobafaaTrTw
set_option linter.all false
/- Made: what it makes of numbers. -/
namespace Go.Proofs.Ytfhlllmicobafaa
open Go.RowKit
open Tr (Ev MS mkstep mrun made MOk)
def MadePost (w : World) (l : List Int) (r : Ending) (w' : World) : Prop := ∃ v, r = .returned v ∧ ERO w w' v (made l)
theorem und_lenT (p : List Ev) : (Tr.und p).length ≤ p.length := by
  have : ∀ (p u : List Ev), (p.foldl Tr.ustep u).length ≤ u.length + p.length := by
    intro p
    induction p with
    | nil => intro u; simp
    | cons a p ih =>
      intro u
      have h1 := ih (Tr.ustep u a)
      have h2 : (Tr.ustep u a).length ≤ u.length + 1 := by
        unfold Tr.ustep
        split
        · simp
        · split
          · have := List.length_filter_le (fun e : Ev => e.run != a.run) u; omega
          · omega
      simp only [List.foldl_cons, List.length_cons]
      omega
  have := this p []
  simpa [Tr.und] using this
set_option maxRecDepth 100000 in
set_option maxHeartbeats 40000000 in
theorem made_c {w : World} {p : Option Addr} {n c : Nat} {l : List Int} (h : IntsK .u32 w (.slice p n c) l) (hn : l.length = n) (hc : n ≤ c) (hl : n ≤ maxLen) (hu : Tr.U32 l) :
    Calls Try.prog 29 #[.slice p n c] w (MadePost w l) := by
  have HQ := Lib.hid h
  have HN := Lib.hid hn
  have HU := Lib.hid hu
  have HT0 := Lib.hid (Two.start w)
  have m1 : (min (n : Int) 200) ≤ (c : Int) := by omega
  have m2 : (0 : Int) ≤ min (n : Int) 200 := by omega
  have m3 : min (n : Int) 200 ≤ (n : Int) := by omega
  clear h hn hu
  go_enter Try.func29, Try.ntmps29
  go_wp2
  go_loopw [3, 4, 5, 6, 20] (fun va vb t r i wr => ∃ (j : Nat) (s : MS) (vo vu : Value), vo = va ∧ vu = vb ∧ (j : Int) ≤ min (n : Int) 200 ∧ i = .int .i64 j ∧ s = mrun (l.take j) ∧ t = .int .i64 s.t ∧ r = .int .i64 s.run ∧ Two w wr vo vu s.out s.under) (fun _ _ _ _ i _ => match i with | .int _ x => (n - x).toNat | _ => 0)
  case atStart => exact ⟨0, MS.start, _, _, rfl, rfl, by omega, rfl, rfl, rfl, rfl, HT0.out⟩
  case round =>
    obtain ⟨j, s, vo, vu, rfl, rfl, hj, rfl, hs, rfl, rfl, ht⟩ := hrel
    have HS := Lib.hid hs
    have HT := Lib.hid ht
    have hok := Tr.mrun_ok (l.take j) (by rw [List.length_take]; omega) (fun x hx => HU.out x (List.mem_of_mem_take hx))
    rw [← hs] at hok
    have hlj : (l.take j).length = j := by rw [List.length_take, HN.out]; omega
    rw [hlj] at hok
    have HOK := Lib.hid hok
    have t0 := hok.t0
    have t1 := hok.t1
    have r1 := hok.run1
    have r0 : 0 ≤ s.run := by rw [← hok.last]; exact (Tr.last_nonneg _ hok.ok).1
    have no1 := hok.len
    have nu1 : s.under.length ≤ s.out.length := by rw [← hok.und]; exact und_lenT _
    clear hs ht hok hlj
    by_cases hlt : (j : Int) < min (n : Int) 200
    · have hjl : j < l.length := by have := HN.out; omega
      have hb21 : decide ((j : Int) < max (min (n : Int) 200) 0) = true := decide_eq_true (by omega)
      have HX := Lib.hid (get_of hjl)
      have hx := HU.out _ (List.getElem_mem hjl)
      have HST : Hid (mrun (l.take (j + 1)) = mkstep s l[j]) := Lib.hid (by rw [List.take_add_one, HX.out, HS.out]; exact Tr.mrun_snoc _ _)
      obtain ⟨b0, off, hp, hcell⟩ : ∃ b0 off, p = some ⟨b0, off, none⟩ ∧ wr.cell? ⟨b0, off + j, none⟩ = some (.int .u32 l[j]) := by
        rcases HQ.out.same HT.out.kept with ⟨a, cap, q1, q2⟩ | ⟨b, off, cap, q1, q2, q3⟩
        · rw [q2] at hjl; simp at hjl
        · injection q1 with e1 _ _
          exact ⟨b, off, e1, q3 j _ HX.out⟩
      subst hp
      generalize l[j] = x at HX hx HST hcell
      have i1 : (0 : Int) ≤ (j : Int) := by omega
      obtain ⟨t, ht⟩ : ∃ t, s.t = t := ⟨_, rfl⟩
      obtain ⟨r, hr⟩ : ∃ r, s.run = r := ⟨_, rfl⟩
      obtain ⟨no, hno⟩ : ∃ no, s.out.length = no := ⟨_, rfl⟩
      obtain ⟨nu, hnu⟩ : ∃ nu, s.under.length = nu := ⟨_, rfl⟩
      have HTT := Lib.hid ht
      have HRR := Lib.hid hr
      have HNO := Lib.hid hno
      have HNU := Lib.hid hnu
      rw [hnu, hno] at nu1
      rw [hno] at no1
      rw [ht] at t0 t1 ⊢
      rw [hr] at r0 r1 ⊢
      have w1 : wrap64 (r + 1) = r + 1 := IntWalk.wrap64_in _ (by omega)
      clear ht hr hno hnu
      by_cases c5 : x % 16 ≤ 5
      ·
        have q : x % 16 = 0 ∨ x % 16 = 1 ∨ x % 16 = 2 ∨ x % 16 = 3 ∨ x % 16 = 4 ∨ x % 16 = 5 := by omega
        go_upto_if 66 with (fail)
        go_cut [66] from 66 to 72 (fun s wx => s = .bool true ∧ wx = (wr.alloc (.cells #[.int .i64 0, .int .i64 (t + x / 16 % 4), .int .i64 (x / 256 % 5), .int .i64 0, .int .i64 0, .int .i64 0, .int .i64 0, .int .i64 0] 35)))
        case first =>
          rcases q with q | q | q | q | q | q
          ·
            have m0 : (x % 16 == 0) = true := by rw [q]; rfl
            have m1 : (x % 16 == 1) = false := by rw [q]; rfl
            have m2 : (x % 16 == 2) = false := by rw [q]; rfl
            have m3 : (x % 16 == 3) = false := by rw [q]; rfl
            have m4 : (x % 16 == 4) = false := by rw [q]; rfl
            have m5 : (x % 16 == 5) = false := by rw [q]; rfl
            clear q
            go_wp2_with fail
            go_meet
            exact ⟨by first | rfl | rw [m0], rfl⟩
          ·
            have m0 : (x % 16 == 0) = false := by rw [q]; rfl
            have m1 : (x % 16 == 1) = true := by rw [q]; rfl
            have m2 : (x % 16 == 2) = false := by rw [q]; rfl
            have m3 : (x % 16 == 3) = false := by rw [q]; rfl
            have m4 : (x % 16 == 4) = false := by rw [q]; rfl
            have m5 : (x % 16 == 5) = false := by rw [q]; rfl
            clear q
            go_wp2_with fail
            go_meet
            exact ⟨by first | rfl | rw [m1], rfl⟩
          ·
            have m0 : (x % 16 == 0) = false := by rw [q]; rfl
            have m1 : (x % 16 == 1) = false := by rw [q]; rfl
            have m2 : (x % 16 == 2) = true := by rw [q]; rfl
            have m3 : (x % 16 == 3) = false := by rw [q]; rfl
            have m4 : (x % 16 == 4) = false := by rw [q]; rfl
            have m5 : (x % 16 == 5) = false := by rw [q]; rfl
            clear q
            go_wp2_with fail
            go_meet
            exact ⟨by first | rfl | rw [m2], rfl⟩
          ·
            have m0 : (x % 16 == 0) = false := by rw [q]; rfl
            have m1 : (x % 16 == 1) = false := by rw [q]; rfl
            have m2 : (x % 16 == 2) = false := by rw [q]; rfl
            have m3 : (x % 16 == 3) = true := by rw [q]; rfl
            have m4 : (x % 16 == 4) = false := by rw [q]; rfl
            have m5 : (x % 16 == 5) = false := by rw [q]; rfl
            clear q
            go_wp2_with fail
            go_meet
            exact ⟨by first | rfl | rw [m3], rfl⟩
          ·
            have m0 : (x % 16 == 0) = false := by rw [q]; rfl
            have m1 : (x % 16 == 1) = false := by rw [q]; rfl
            have m2 : (x % 16 == 2) = false := by rw [q]; rfl
            have m3 : (x % 16 == 3) = false := by rw [q]; rfl
            have m4 : (x % 16 == 4) = true := by rw [q]; rfl
            have m5 : (x % 16 == 5) = false := by rw [q]; rfl
            clear q
            go_wp2_with fail
            go_meet
            exact ⟨by first | rfl | rw [m4], rfl⟩
          ·
            have m0 : (x % 16 == 0) = false := by rw [q]; rfl
            have m1 : (x % 16 == 1) = false := by rw [q]; rfl
            have m2 : (x % 16 == 2) = false := by rw [q]; rfl
            have m3 : (x % 16 == 3) = false := by rw [q]; rfl
            have m4 : (x % 16 == 4) = false := by rw [q]; rfl
            have m5 : (x % 16 == 5) = true := by rw [q]; rfl
            clear q
            go_wp2_with fail
            go_meet
            exact ⟨by first | rfl | rw [m5], rfl⟩
        case rest =>
          obtain ⟨rfl, rfl⟩ := hcut
          obtain ⟨e, he⟩ : ∃ e : Ev, e = ⟨1, t + x / 16 % 4, x / 256 % 5, t + x / 16 % 4 - x / 4096 % 200, 1 + x / 1048576 % 4, r + 1, 0, 0⟩ := ⟨_, rfl⟩
          have HMK : Hid (mkstep s x = ⟨s.out ++ [e], s.under ++ [e], t + x / 16 % 4, r + 1⟩) := Lib.hid (by
            unfold mkstep
            rw [if_pos (by omega), he]
            simp [Tr.mlaunch, Tr.mt, Tr.mjob, Tr.mdue, Tr.matt, HTT.out, HRR.out])
          have HE : Hid (evC e = [.int .i64 1, .int .i64 (t + x / 16 % 4), .int .i64 (x / 256 % 5), .int .i64 (t + x / 16 % 4 - x / 4096 % 200), .int .i64 (1 + x / 1048576 % 4), .int .i64 (r + 1), .int .i64 0, .int .i64 0]) := Lib.hid (by rw [he]; rfl)
          have HRB : Hid (∀ o, RowAt (wr.alloc (.cells o 35)) wr.heap.size o.toList) := Lib.hid fun o => RowAt.new wr 35 o
          have HTB : Hid (∀ o, Two w (wr.alloc (.cells o 35)) vo vu s.out s.under) := Lib.hid fun o => HT.out.move ((Kept.refl _ _).alloc _)
          have HUB : Hid (∀ b, vu.ownBlock = some b → b < wr.heap.size) := Lib.hid fun b q => (ownsRow_block HT.out.u q).2
          have HTO : Hid (∀ o, (wr.alloc (.cells o 35)).ownsRow w.heap.size 35 8 vu nu (cellsL evC s.under)) := Lib.hid fun o => by have := (HTB.out o).u; rw [HNU.out] at this; exact this
          have HSZ : Hid (∀ o, w.heap.size ≤ (wr.alloc (.cells o 35)).heap.size) := Lib.hid fun o => (HTB.out o).size
          clear he
          go_wp2_with (at_builtin; go_loud (refine wpList_appN el22 rfl (.tmp 82) (.tmp 84) rfl (news := [.int .i64 1, .int .i64 (t + x / 16 % 4), .int .i64 (x / 256 % 5), .int .i64 (t + x / 16 % 4 - x / 4096 % 200), .int .i64 (1 + x / 1048576 % 4), .int .i64 (r + 1), .int .i64 0, .int .i64 0]) w.heap.size vu nu 1 (cellsL evC s.under) rfl (HTO.out _) (by simp [Act.eval, World.size_alloc]) rfl (by decide) (by rw [← HE.out]; exact evC_one e) (by unfold maxLen; omega) (by omega) (HSZ.out _) ?_))
          intro gu cu wa own1 k1 hor1
          have T1 := Lib.hid ((Two.snoc (x := e) (HTB.out _).swap HNU.out (by rw [HE.out]; exact own1) k1 (by rw [World.size_alloc]; exact hor1)).swap)
          have RB := (HRB.out _).kept k1 (fun q => by have := HUB.out _ q; omega)
          have a0 := RB.get (j := 0) rfl
          have a1 := RB.get (j := 1) rfl
          have a2 := RB.get (j := 2) rfl
          have a3 := RB.get (j := 3) rfl
          have a4 := RB.get (j := 4) rfl
          have a5 := RB.get (j := 5) rfl
          have a6 := RB.get (j := 6) rfl
          have a7 := RB.get (j := 7) rfl
          have al := RB.lt
          have HTO2 : Hid (wa.ownsRow w.heap.size 35 8 vo no (cellsL evC s.out)) := Lib.hid (by have := T1.out.o; rw [HNO.out] at this; exact this)
          clear own1 k1 hor1 RB
          go_wp2_with (at_builtin; go_loud (refine wpList_appN el22 rfl (.tmp 157) (.tmp 159) rfl (news := [.int .i64 1, .int .i64 (t + x / 16 % 4), .int .i64 (x / 256 % 5), .int .i64 (t + x / 16 % 4 - x / 4096 % 200), .int .i64 (1 + x / 1048576 % 4), .int .i64 (r + 1), .int .i64 0, .int .i64 0]) w.heap.size vo no 1 (cellsL evC s.out) rfl HTO2.out (by simp [Act.eval, World.size_alloc]) rfl (by decide) (by rw [← HE.out]; exact evC_one e) (by unfold maxLen; omega) (by omega) T1.out.size ?_))
          intro g2 co wb own2 k2 hor2
          have T2 := Lib.hid (Two.snoc (x := e) T1.out HNO.out (by rw [HE.out]; exact own2) k2 hor2)
          clear own2 k2 hor2 a0 a1 a2 a3 a4 a5 a6 a7 al
          go_wp2
          go_roundw
          case rel => exact ⟨j + 1, mkstep s x, _, _, rfl, rfl, by omega, by go_num, HST.out.symm, by rw [HMK.out], by rw [HMK.out], by rw [HMK.out]; exact T2.out⟩
          case measure => simp; omega
      by_cases c9 : x % 16 ≤ 9
      ·
        have q : x % 16 = 6 ∨ x % 16 = 7 ∨ x % 16 = 8 ∨ x % 16 = 9 := by omega
        have n0 : (x % 16 == 0) = false := beq_eq_false_iff_ne.2 (by omega)
        have n1 : (x % 16 == 1) = false := beq_eq_false_iff_ne.2 (by omega)
        have n2 : (x % 16 == 2) = false := beq_eq_false_iff_ne.2 (by omega)
        have n3 : (x % 16 == 3) = false := beq_eq_false_iff_ne.2 (by omega)
        have n4 : (x % 16 == 4) = false := beq_eq_false_iff_ne.2 (by omega)
        have n5 : (x % 16 == 5) = false := beq_eq_false_iff_ne.2 (by omega)
        go_upto_if 86 with (fail)
        go_cut [86] from 86 to 90 (fun s wx => s = .bool true ∧ wx = (wr.alloc (.cells #[.int .i64 0, .int .i64 (t + x / 16 % 4), .int .i64 (x / 256 % 5), .int .i64 0, .int .i64 0, .int .i64 0, .int .i64 0, .int .i64 0] 35)))
        case first =>
          rcases q with q | q | q | q
          ·
            have m6 : (x % 16 == 6) = true := by rw [q]; rfl
            have m7 : (x % 16 == 7) = false := by rw [q]; rfl
            have m8 : (x % 16 == 8) = false := by rw [q]; rfl
            have m9 : (x % 16 == 9) = false := by rw [q]; rfl
            clear q
            go_wp2_with fail
            go_meet
            exact ⟨by first | rfl | rw [m6], rfl⟩
          ·
            have m6 : (x % 16 == 6) = false := by rw [q]; rfl
            have m7 : (x % 16 == 7) = true := by rw [q]; rfl
            have m8 : (x % 16 == 8) = false := by rw [q]; rfl
            have m9 : (x % 16 == 9) = false := by rw [q]; rfl
            clear q
            go_wp2_with fail
            go_meet
            exact ⟨by first | rfl | rw [m7], rfl⟩
          ·
            have m6 : (x % 16 == 6) = false := by rw [q]; rfl
            have m7 : (x % 16 == 7) = false := by rw [q]; rfl
            have m8 : (x % 16 == 8) = true := by rw [q]; rfl
            have m9 : (x % 16 == 9) = false := by rw [q]; rfl
            clear q
            go_wp2_with fail
            go_meet
            exact ⟨by first | rfl | rw [m8], rfl⟩
          ·
            have m6 : (x % 16 == 6) = false := by rw [q]; rfl
            have m7 : (x % 16 == 7) = false := by rw [q]; rfl
            have m8 : (x % 16 == 8) = false := by rw [q]; rfl
            have m9 : (x % 16 == 9) = true := by rw [q]; rfl
            clear q
            go_wp2_with fail
            go_meet
            exact ⟨by first | rfl | rw [m9], rfl⟩
        case rest =>
          obtain ⟨rfl, rfl⟩ := hcut
          by_cases hz0 : nu = 0
          · have HMK : Hid (mkstep s x = { s with t := t + x / 16 % 4 }) := Lib.hid (by
              unfold mkstep
              rw [if_neg (by omega), if_pos (by omega)]
              have e : s.under[Tr.mkth s x]? = none := List.getElem?_eq_none (by rw [HNU.out]; omega)
              rw [e]
              simp [Tr.mt, HTT.out])
            have HTB : Hid (∀ o, Two w (wr.alloc (.cells o 35)) vo vu s.out s.under) := Lib.hid fun o => HT.out.move ((Kept.refl _ _).alloc _)
            have hvu : vu = .slice none 0 0 ∨ ∃ g c, vu = .slice (some ⟨g, 0, none⟩) 0 c := by
              rcases HT.out.u.2 with ⟨q1, -⟩ | ⟨g, cap, cur, q1, -⟩
              · exact .inl q1
              · rw [HNU.out, hz0] at q1; exact .inr ⟨g, cap, q1⟩
            rcases hvu with rfl | ⟨g, cc, rfl⟩
            all_goals
              go_wp2
              go_roundw
              case rel => exact ⟨j + 1, mkstep s x, _, _, rfl, rfl, by omega, by go_num, HST.out.symm, by rw [HMK.out], by rw [HMK.out]; rw [HRR.out], by rw [HMK.out]; exact HTB.out _⟩
              case measure => simp; omega
          · obtain ⟨g, cc, hvu⟩ : ∃ g c, vu = .slice (some ⟨g, 0, none⟩) nu c := by
              rcases HT.out.u.2 with ⟨-, q2⟩ | ⟨g, cap, cur, q1, -⟩
              · rw [HNU.out] at q2; omega
              · rw [HNU.out] at q1; exact ⟨g, cap, q1⟩
            subst hvu
            obtain ⟨k, hk⟩ : ∃ k : Nat, x / 256 % (nu : Int) = (k : Int) := ⟨(x / 256 % (nu : Int)).toNat, by have := Int.emod_nonneg (x / 256) (show (nu : Int) ≠ 0 by omega); omega⟩
            have hkn : k < nu := by have := Int.emod_lt_of_pos (x / 256) (show (0 : Int) < (nu : Int) by omega); omega
            have hkm : Tr.mkth s x = k := by unfold Tr.mkth; rw [HNU.out, hk]; simp
            obtain ⟨y, hy⟩ : ∃ y, s.under[k]? = some y := ⟨_, List.getElem?_eq_getElem (by rw [HNU.out]; exact hkn)⟩
            obtain ⟨e, he⟩ : ∃ e : Ev, e = ⟨2 + x / 16777216 % 2, t + x / 16 % 4, y.job, y.due, y.att, y.run, y.why, y.whn⟩ := ⟨_, rfl⟩
            have HMK : Hid (mkstep s x = ⟨s.out ++ [e], s.under.eraseIdx k, t + x / 16 % 4, r⟩) := Lib.hid (by
              unfold mkstep
              rw [if_neg (by omega), if_pos (by omega), hkm, hy, he]
              simp [Tr.mend, Tr.mt, HTT.out, HRR.out])
            have HE : Hid (evC e = [.int .i64 (2 + x / 16777216 % 2), .int .i64 (t + x / 16 % 4), .int .i64 y.job, .int .i64 y.due, .int .i64 y.att, .int .i64 y.run, .int .i64 y.why, .int .i64 y.whn]) := Lib.hid (by rw [he]; rfl)
            obtain ⟨m, rfl⟩ : ∃ m, nu = m + 1 := ⟨nu - 1, by omega⟩
            have HRB : Hid (∀ o, RowAt (wr.alloc (.cells o 35)) wr.heap.size o.toList) := Lib.hid fun o => RowAt.new wr 35 o
            have HTB : Hid (∀ o, Two w (wr.alloc (.cells o 35)) vo (.slice (some ⟨g, 0, none⟩) (m + 1) cc) s.out s.under) := Lib.hid fun o => HT.out.move ((Kept.refl _ _).alloc _)
            have HGB : Hid (g < wr.heap.size) := Lib.hid (ownsRow_block HT.out.u rfl).2
            have HOU : Hid (∀ o, (wr.alloc (.cells o 35)).ownsRow w.heap.size 35 8 (.slice (some ⟨g, 0, none⟩) (m + 1) cc) (m + 1) (cellsL evC s.under)) := Lib.hid fun o => by have := (HTB.out o).u; rw [HNU.out] at this; exact this
            have hk1 : ((k + 1 : Nat) : Int) = (k : Int) + 1 := by push_cast; rfl
            have HDL : Hid (∀ o, Calls Try.prog 58 #[.slice (some ⟨g, 0, none⟩) (m + 1) cc, .int .i64 (k : Nat), .int .i64 ((k : Int) + 1)] (wr.alloc (.cells o 35)) fun e W' => e = .returned (.slice (some ⟨g, 0, none⟩) m cc) ∧ W'.ownsRow w.heap.size 35 8 (.slice (some ⟨g, 0, none⟩) m cc) m (cellsL evC (s.under.eraseIdx k)) ∧ Kept (fun b => b = g) (wr.alloc (.cells o 35)) W') := Lib.hid fun o => by
              have := delete58_c k (HOU.out o) HNU.out (by omega) (by omega)
              rwa [hk1] at this
            have HEL : Hid ((s.under.eraseIdx k).length = m) := Lib.hid (by rw [List.length_eraseIdx_of_lt (by rw [HNU.out]; omega), HNU.out]; rfl)
            have hrows : RowsAt evC 8 wr g 0 s.under := by
              have h1 := Rows.of_own (f := evC) evC_len HT.out.u
              obtain ⟨b, o2, c2, q, -, -, q2⟩ := h1.pos (by rw [HNU.out]; omega)
              injection q with q1
              injection q1 with q1
              injection q1 with q1 q3
              subst q1 q3
              exact q2
            have hy8 := hrows.ev hy
            obtain ⟨y0, y1, y2, y3, y4, y5, y6, y7⟩ := hy8
            rw [Nat.zero_add] at y0 y1 y2 y3 y4 y5 y6 y7
            have kk1 : (0 : Int) ≤ (k : Int) := by omega
            have kk2 : (k : Int) < (m : Int) + 1 := by omega
            have HYY := Lib.hid hy
            have hk2 : x / 256 % ((m : Int) + 1) = (k : Int) := by rw [← hk]; push_cast; rfl
            have hgb := HGB.out
            clear he hkm hrows hy hk hk1
            go_wp2_with (go_at_call 58; fail)
            refine (HDL.out _).mono ?_
            rintro e3 w3 ⟨rfl, own3, K3⟩
            have T1 := Lib.hid (((HTB.out _).swap.turn (xn := s.under.eraseIdx k) (by rw [HEL.out]; exact own3) (K3.mono fun b _ q => by rw [q]; rfl) (fun b q => .inl (by simpa [Value.ownBlock] using q))).swap)
            have RB := (HRB.out _).kept K3 (fun q => by have := HGB.out; omega)
            have a0 := RB.get (j := 0) rfl
            have a1 := RB.get (j := 1) rfl
            have a2 := RB.get (j := 2) rfl
            have a3 := RB.get (j := 3) rfl
            have a4 := RB.get (j := 4) rfl
            have a5 := RB.get (j := 5) rfl
            have a6 := RB.get (j := 6) rfl
            have a7 := RB.get (j := 7) rfl
            have al := RB.lt
            have HTO2 : Hid (w3.ownsRow w.heap.size 35 8 vo no (cellsL evC s.out)) := Lib.hid (by have := T1.out.o; rw [HNO.out] at this; exact this)
            clear own3 K3 RB y0 y1 y2 y3 y4 y5 y6 y7
            go_wp2_with (at_builtin; go_loud (refine wpList_appN el22 rfl (.tmp 157) (.tmp 159) rfl (news := [.int .i64 (2 + x / 16777216 % 2), .int .i64 (t + x / 16 % 4), .int .i64 y.job, .int .i64 y.due, .int .i64 y.att, .int .i64 y.run, .int .i64 y.why, .int .i64 y.whn]) w.heap.size vo no 1 (cellsL evC s.out) rfl HTO2.out (by simp [Act.eval, World.size_alloc]) rfl (by decide) (by rw [← HE.out]; exact evC_one e) (by unfold maxLen; omega) (by omega) T1.out.size ?_))
            intro g2 co wb own2 k2 hor2
            have T2 := Lib.hid (Two.snoc (x := e) T1.out HNO.out (by rw [HE.out]; exact own2) k2 hor2)
            clear own2 k2 hor2 a0 a1 a2 a3 a4 a5 a6 a7 al
            go_wp2
            go_roundw
            case rel => exact ⟨j + 1, mkstep s x, _, _, rfl, rfl, by omega, by go_num, HST.out.symm, by rw [HMK.out], by rw [HMK.out], by rw [HMK.out]; exact T2.out⟩
            case measure => simp; omega
      by_cases c11 : x % 16 ≤ 11
      ·
        have q : x % 16 = 10 ∨ x % 16 = 11 := by omega
        have n0 : (x % 16 == 0) = false := beq_eq_false_iff_ne.2 (by omega)
        have n1 : (x % 16 == 1) = false := beq_eq_false_iff_ne.2 (by omega)
        have n2 : (x % 16 == 2) = false := beq_eq_false_iff_ne.2 (by omega)
        have n3 : (x % 16 == 3) = false := beq_eq_false_iff_ne.2 (by omega)
        have n4 : (x % 16 == 4) = false := beq_eq_false_iff_ne.2 (by omega)
        have n5 : (x % 16 == 5) = false := beq_eq_false_iff_ne.2 (by omega)
        have n6 : (x % 16 == 6) = false := beq_eq_false_iff_ne.2 (by omega)
        have n7 : (x % 16 == 7) = false := beq_eq_false_iff_ne.2 (by omega)
        have n8 : (x % 16 == 8) = false := beq_eq_false_iff_ne.2 (by omega)
        have n9 : (x % 16 == 9) = false := beq_eq_false_iff_ne.2 (by omega)
        go_upto_if 117 with (fail)
        go_cut [117] from 117 to 119 (fun s wx => s = .bool true ∧ wx = (wr.alloc (.cells #[.int .i64 0, .int .i64 (t + x / 16 % 4), .int .i64 (x / 256 % 5), .int .i64 0, .int .i64 0, .int .i64 0, .int .i64 0, .int .i64 0] 35)))
        case first =>
          rcases q with q | q
          ·
            have m10 : (x % 16 == 10) = true := by rw [q]; rfl
            have m11 : (x % 16 == 11) = false := by rw [q]; rfl
            clear q
            go_wp2_with fail
            go_meet
            exact ⟨by first | rfl | rw [m10], rfl⟩
          ·
            have m10 : (x % 16 == 10) = false := by rw [q]; rfl
            have m11 : (x % 16 == 11) = true := by rw [q]; rfl
            clear q
            go_wp2_with fail
            go_meet
            exact ⟨by first | rfl | rw [m11], rfl⟩
        case rest =>
          obtain ⟨rfl, rfl⟩ := hcut
          obtain ⟨e, he⟩ : ∃ e : Ev, e = ⟨4, t + x / 16 % 4, x / 256 % 5, t + x / 16 % 4 - x / 4096 % 200, 1 + x / 1048576 % 4 + 1, 0, 0, t + x / 16 % 4 + 1 + x / 16777216⟩ := ⟨_, rfl⟩
          have HMK : Hid (mkstep s x = ⟨s.out ++ [e], s.under, t + x / 16 % 4, r⟩) := Lib.hid (by
            unfold mkstep
            rw [if_neg (by omega), if_neg (by omega), he]
            unfold Tr.mother
            rw [if_pos (by omega)]
            simp [Tr.mt, Tr.mjob, Tr.mdue, Tr.matt, HTT.out, HRR.out])
          have HE : Hid (evC e = [.int .i64 4, .int .i64 (t + x / 16 % 4), .int .i64 (x / 256 % 5), .int .i64 (t + x / 16 % 4 - x / 4096 % 200), .int .i64 (1 + x / 1048576 % 4 + 1), .int .i64 0, .int .i64 0, .int .i64 (t + x / 16 % 4 + 1 + x / 16777216)]) := Lib.hid (by rw [he]; rfl)
          have HTB : Hid (∀ o, Two w (wr.alloc (.cells o 35)) vo vu s.out s.under) := Lib.hid fun o => HT.out.move ((Kept.refl _ _).alloc _)
          have HTO : Hid (∀ o, (wr.alloc (.cells o 35)).ownsRow w.heap.size 35 8 vo no (cellsL evC s.out)) := Lib.hid fun o => by have := (HTB.out o).o; rw [HNO.out] at this; exact this
          have HSZ : Hid (∀ o, w.heap.size ≤ (wr.alloc (.cells o 35)).heap.size) := Lib.hid fun o => (HTB.out o).size
          clear he
          go_wp2_with (at_builtin; go_loud (refine wpList_appN el22 rfl (.tmp 157) (.tmp 159) rfl (news := [.int .i64 4, .int .i64 (t + x / 16 % 4), .int .i64 (x / 256 % 5), .int .i64 (t + x / 16 % 4 - x / 4096 % 200), .int .i64 (1 + x / 1048576 % 4 + 1), .int .i64 0, .int .i64 0, .int .i64 (t + x / 16 % 4 + 1 + x / 16777216)]) w.heap.size vo no 1 (cellsL evC s.out) rfl (HTO.out _) (by simp [Act.eval, World.size_alloc]) rfl (by decide) (by rw [← HE.out]; exact evC_one e) (by unfold maxLen; omega) (by omega) (HSZ.out _) ?_))
          intro g2 co wb own2 k2 hor2
          have T2 := Lib.hid (Two.snoc (x := e) (HTB.out _) HNO.out (by rw [HE.out]; exact own2) k2 (by rw [World.size_alloc]; exact hor2))
          clear own2 k2 hor2
          go_wp2
          go_roundw
          case rel => exact ⟨j + 1, mkstep s x, _, _, rfl, rfl, by omega, by go_num, HST.out.symm, by rw [HMK.out], by rw [HMK.out], by rw [HMK.out]; exact T2.out⟩
          case measure => simp; omega
      by_cases c13 : x % 16 ≤ 13
      ·
        have q : x % 16 = 12 ∨ x % 16 = 13 := by omega
        have n0 : (x % 16 == 0) = false := beq_eq_false_iff_ne.2 (by omega)
        have n1 : (x % 16 == 1) = false := beq_eq_false_iff_ne.2 (by omega)
        have n2 : (x % 16 == 2) = false := beq_eq_false_iff_ne.2 (by omega)
        have n3 : (x % 16 == 3) = false := beq_eq_false_iff_ne.2 (by omega)
        have n4 : (x % 16 == 4) = false := beq_eq_false_iff_ne.2 (by omega)
        have n5 : (x % 16 == 5) = false := beq_eq_false_iff_ne.2 (by omega)
        have n6 : (x % 16 == 6) = false := beq_eq_false_iff_ne.2 (by omega)
        have n7 : (x % 16 == 7) = false := beq_eq_false_iff_ne.2 (by omega)
        have n8 : (x % 16 == 8) = false := beq_eq_false_iff_ne.2 (by omega)
        have n9 : (x % 16 == 9) = false := beq_eq_false_iff_ne.2 (by omega)
        have n10 : (x % 16 == 10) = false := beq_eq_false_iff_ne.2 (by omega)
        have n11 : (x % 16 == 11) = false := beq_eq_false_iff_ne.2 (by omega)
        go_upto_if 133 with (fail)
        go_cut [133] from 133 to 135 (fun s wx => s = .bool true ∧ wx = (wr.alloc (.cells #[.int .i64 0, .int .i64 (t + x / 16 % 4), .int .i64 (x / 256 % 5), .int .i64 0, .int .i64 0, .int .i64 0, .int .i64 0, .int .i64 0] 35)))
        case first =>
          rcases q with q | q
          ·
            have m12 : (x % 16 == 12) = true := by rw [q]; rfl
            have m13 : (x % 16 == 13) = false := by rw [q]; rfl
            clear q
            go_wp2_with fail
            go_meet
            exact ⟨by first | rfl | rw [m12], rfl⟩
          ·
            have m12 : (x % 16 == 12) = false := by rw [q]; rfl
            have m13 : (x % 16 == 13) = true := by rw [q]; rfl
            clear q
            go_wp2_with fail
            go_meet
            exact ⟨by first | rfl | rw [m13], rfl⟩
        case rest =>
          obtain ⟨rfl, rfl⟩ := hcut
          obtain ⟨e, he⟩ : ∃ e : Ev, e = ⟨5, t + x / 16 % 4, x / 256 % 5, t + x / 16 % 4 - x / 4096 % 200, 1 + x / 1048576 % 4, 0, 1 + x / 16777216 % 6, 0⟩ := ⟨_, rfl⟩
          have HMK : Hid (mkstep s x = ⟨s.out ++ [e], s.under, t + x / 16 % 4, r⟩) := Lib.hid (by
            unfold mkstep
            rw [if_neg (by omega), if_neg (by omega), he]
            unfold Tr.mother
            rw [if_neg (by omega), if_pos (by omega)]
            simp [Tr.mt, Tr.mjob, Tr.mdue, Tr.matt, HTT.out, HRR.out])
          have HE : Hid (evC e = [.int .i64 5, .int .i64 (t + x / 16 % 4), .int .i64 (x / 256 % 5), .int .i64 (t + x / 16 % 4 - x / 4096 % 200), .int .i64 (1 + x / 1048576 % 4), .int .i64 0, .int .i64 (1 + x / 16777216 % 6), .int .i64 0]) := Lib.hid (by rw [he]; rfl)
          have HTB : Hid (∀ o, Two w (wr.alloc (.cells o 35)) vo vu s.out s.under) := Lib.hid fun o => HT.out.move ((Kept.refl _ _).alloc _)
          have HTO : Hid (∀ o, (wr.alloc (.cells o 35)).ownsRow w.heap.size 35 8 vo no (cellsL evC s.out)) := Lib.hid fun o => by have := (HTB.out o).o; rw [HNO.out] at this; exact this
          have HSZ : Hid (∀ o, w.heap.size ≤ (wr.alloc (.cells o 35)).heap.size) := Lib.hid fun o => (HTB.out o).size
          clear he
          go_wp2_with (at_builtin; go_loud (refine wpList_appN el22 rfl (.tmp 157) (.tmp 159) rfl (news := [.int .i64 5, .int .i64 (t + x / 16 % 4), .int .i64 (x / 256 % 5), .int .i64 (t + x / 16 % 4 - x / 4096 % 200), .int .i64 (1 + x / 1048576 % 4), .int .i64 0, .int .i64 (1 + x / 16777216 % 6), .int .i64 0]) w.heap.size vo no 1 (cellsL evC s.out) rfl (HTO.out _) (by simp [Act.eval, World.size_alloc]) rfl (by decide) (by rw [← HE.out]; exact evC_one e) (by unfold maxLen; omega) (by omega) (HSZ.out _) ?_))
          intro g2 co wb own2 k2 hor2
          have T2 := Lib.hid (Two.snoc (x := e) (HTB.out _) HNO.out (by rw [HE.out]; exact own2) k2 (by rw [World.size_alloc]; exact hor2))
          clear own2 k2 hor2
          go_wp2
          go_roundw
          case rel => exact ⟨j + 1, mkstep s x, _, _, rfl, rfl, by omega, by go_num, HST.out.symm, by rw [HMK.out], by rw [HMK.out], by rw [HMK.out]; exact T2.out⟩
          case measure => simp; omega
      by_cases c14 : x % 16 = 14
      ·
        have q : x % 16 = 14 := by omega
        obtain ⟨e, he⟩ : ∃ e : Ev, e = ⟨6, t + x / 16 % 4, 0, 0, 0, 0, 1 + x / 16777216 % 16, 0⟩ := ⟨_, rfl⟩
        have HMK : Hid (mkstep s x = ⟨s.out ++ [e], s.under, t + x / 16 % 4, r⟩) := Lib.hid (by
          unfold mkstep
          rw [if_neg (by omega), if_neg (by omega), he]
          unfold Tr.mother
          rw [if_neg (by omega), if_neg (by omega), if_pos (by omega)]
          simp [Tr.mt, Tr.mjob, Tr.mdue, Tr.matt, HTT.out, HRR.out])
        have HE : Hid (evC e = [.int .i64 6, .int .i64 (t + x / 16 % 4), .int .i64 0, .int .i64 0, .int .i64 0, .int .i64 0, .int .i64 (1 + x / 16777216 % 16), .int .i64 0]) := Lib.hid (by rw [he]; rfl)
        have HTB : Hid (∀ o, Two w (wr.alloc (.cells o 35)) vo vu s.out s.under) := Lib.hid fun o => HT.out.move ((Kept.refl _ _).alloc _)
        have HTO : Hid (∀ o, (wr.alloc (.cells o 35)).ownsRow w.heap.size 35 8 vo no (cellsL evC s.out)) := Lib.hid fun o => by have := (HTB.out o).o; rw [HNO.out] at this; exact this
        have HSZ : Hid (∀ o, w.heap.size ≤ (wr.alloc (.cells o 35)).heap.size) := Lib.hid fun o => (HTB.out o).size
        clear he
        go_wp2_with (at_builtin; go_loud (refine wpList_appN el22 rfl (.tmp 157) (.tmp 159) rfl (news := [.int .i64 6, .int .i64 (t + x / 16 % 4), .int .i64 0, .int .i64 0, .int .i64 0, .int .i64 0, .int .i64 (1 + x / 16777216 % 16), .int .i64 0]) w.heap.size vo no 1 (cellsL evC s.out) rfl (HTO.out _) (by simp [Act.eval, World.size_alloc]) rfl (by decide) (by rw [← HE.out]; exact evC_one e) (by unfold maxLen; omega) (by omega) (HSZ.out _) ?_))
        intro g2 co wb own2 k2 hor2
        have T2 := Lib.hid (Two.snoc (x := e) (HTB.out _) HNO.out (by rw [HE.out]; exact own2) k2 (by rw [World.size_alloc]; exact hor2))
        clear own2 k2 hor2
        go_wp2
        go_roundw
        case rel => exact ⟨j + 1, mkstep s x, _, _, rfl, rfl, by omega, by go_num, HST.out.symm, by rw [HMK.out], by rw [HMK.out], by rw [HMK.out]; exact T2.out⟩
        case measure => simp; omega
      have q : x % 16 = 15 := by omega
      by_cases k7 : x / 16777216 % 2 = 0
      ·
        obtain ⟨e, he⟩ : ∃ e : Ev, e = ⟨7, t + x / 16 % 4, x / 256 % 5, 0, 0, 0, 0, t + x / 16 % 4 + 1 + x / 4096⟩ := ⟨_, rfl⟩
        have HMK : Hid (mkstep s x = ⟨s.out ++ [e], s.under, t + x / 16 % 4, r⟩) := Lib.hid (by
          unfold mkstep
          rw [if_neg (by omega), if_neg (by omega), he]
          unfold Tr.mother
          rw [if_neg (by omega), if_neg (by omega), if_neg (by omega), if_pos k7]
          simp [Tr.mt, Tr.mjob, Tr.mdue, Tr.matt, HTT.out, HRR.out])
        have HE : Hid (evC e = [.int .i64 7, .int .i64 (t + x / 16 % 4), .int .i64 (x / 256 % 5), .int .i64 0, .int .i64 0, .int .i64 0, .int .i64 0, .int .i64 (t + x / 16 % 4 + 1 + x / 4096)]) := Lib.hid (by rw [he]; rfl)
        have HTB : Hid (∀ o, Two w (wr.alloc (.cells o 35)) vo vu s.out s.under) := Lib.hid fun o => HT.out.move ((Kept.refl _ _).alloc _)
        have HTO : Hid (∀ o, (wr.alloc (.cells o 35)).ownsRow w.heap.size 35 8 vo no (cellsL evC s.out)) := Lib.hid fun o => by have := (HTB.out o).o; rw [HNO.out] at this; exact this
        have HSZ : Hid (∀ o, w.heap.size ≤ (wr.alloc (.cells o 35)).heap.size) := Lib.hid fun o => (HTB.out o).size
        clear he
        go_wp2_with (at_builtin; go_loud (refine wpList_appN el22 rfl (.tmp 157) (.tmp 159) rfl (news := [.int .i64 7, .int .i64 (t + x / 16 % 4), .int .i64 (x / 256 % 5), .int .i64 0, .int .i64 0, .int .i64 0, .int .i64 0, .int .i64 (t + x / 16 % 4 + 1 + x / 4096)]) w.heap.size vo no 1 (cellsL evC s.out) rfl (HTO.out _) (by simp [Act.eval, World.size_alloc]) rfl (by decide) (by rw [← HE.out]; exact evC_one e) (by unfold maxLen; omega) (by omega) (HSZ.out _) ?_))
        intro g2 co wb own2 k2 hor2
        have T2 := Lib.hid (Two.snoc (x := e) (HTB.out _) HNO.out (by rw [HE.out]; exact own2) k2 (by rw [World.size_alloc]; exact hor2))
        clear own2 k2 hor2
        go_wp2
        go_roundw
        case rel => exact ⟨j + 1, mkstep s x, _, _, rfl, rfl, by omega, by go_num, HST.out.symm, by rw [HMK.out], by rw [HMK.out], by rw [HMK.out]; exact T2.out⟩
        case measure => simp; omega
      have k8 : x / 16777216 % 2 = 1 := by omega
      obtain ⟨e, he⟩ : ∃ e : Ev, e = ⟨8, t + x / 16 % 4, x / 256 % 5, 0, 0, 0, 0, 0⟩ := ⟨_, rfl⟩
      have HMK : Hid (mkstep s x = ⟨s.out ++ [e], s.under, t + x / 16 % 4, r⟩) := Lib.hid (by
        unfold mkstep
        rw [if_neg (by omega), if_neg (by omega), he]
        unfold Tr.mother
        rw [if_neg (by omega), if_neg (by omega), if_neg (by omega), if_neg k7]
        simp [Tr.mt, Tr.mjob, Tr.mdue, Tr.matt, HTT.out, HRR.out])
      have HE : Hid (evC e = [.int .i64 8, .int .i64 (t + x / 16 % 4), .int .i64 (x / 256 % 5), .int .i64 0, .int .i64 0, .int .i64 0, .int .i64 0, .int .i64 0]) := Lib.hid (by rw [he]; rfl)
      have HTB : Hid (∀ o, Two w (wr.alloc (.cells o 35)) vo vu s.out s.under) := Lib.hid fun o => HT.out.move ((Kept.refl _ _).alloc _)
      have HTO : Hid (∀ o, (wr.alloc (.cells o 35)).ownsRow w.heap.size 35 8 vo no (cellsL evC s.out)) := Lib.hid fun o => by have := (HTB.out o).o; rw [HNO.out] at this; exact this
      have HSZ : Hid (∀ o, w.heap.size ≤ (wr.alloc (.cells o 35)).heap.size) := Lib.hid fun o => (HTB.out o).size
      clear he
      go_wp2_with (at_builtin; go_loud (refine wpList_appN el22 rfl (.tmp 157) (.tmp 159) rfl (news := [.int .i64 8, .int .i64 (t + x / 16 % 4), .int .i64 (x / 256 % 5), .int .i64 0, .int .i64 0, .int .i64 0, .int .i64 0, .int .i64 0]) w.heap.size vo no 1 (cellsL evC s.out) rfl (HTO.out _) (by simp [Act.eval, World.size_alloc]) rfl (by decide) (by rw [← HE.out]; exact evC_one e) (by unfold maxLen; omega) (by omega) (HSZ.out _) ?_))
      intro g2 co wb own2 k2 hor2
      have T2 := Lib.hid (Two.snoc (x := e) (HTB.out _) HNO.out (by rw [HE.out]; exact own2) k2 (by rw [World.size_alloc]; exact hor2))
      clear own2 k2 hor2
      go_wp2
      go_roundw
      case rel => exact ⟨j + 1, mkstep s x, _, _, rfl, rfl, by omega, by go_num, HST.out.symm, by rw [HMK.out], by rw [HMK.out], by rw [HMK.out]; exact T2.out⟩
      case measure => simp; omega
    · have HF : Hid (MadePost w l (.returned vo) wr) := Lib.hid ⟨_, rfl, by
        have e : l.take j = l.take 200 := by
          have := HN.out
          rcases Nat.le_total n 200 with q | q
          · rw [List.take_of_length_le (by omega), List.take_of_length_le (by omega)]
          · rw [show j = 200 by omega]
        have e2 : made l = s.out := by unfold made; rw [← e, ← HS.out]
        rw [e2]
        exact ⟨HT.out.o, HT.out.size, HT.out.kept⟩⟩
      go_wp2
      go_ret
      exact HF.out
end Go.Proofs.Ytfhlllmicobafaa
