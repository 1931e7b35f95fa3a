/- TrWalkR: texts for the statements of this seat: contracts of functions, walks, plain laws. Conditions: none. -/
import Derived.Test.YtfhlllmicobafaaTrWalk2
import Derived.Test.YtfhlllmicobafaaTrRun1
set_option linter.all false
/- walk, with what Running does in its rounds. -/
namespace Go.Proofs.Ytfhlllmicobafaa
open Go.RowKit
open Tr (Ev)

/-- The runs that were collected. -/
def RunFin (w wr : World) (Bo : Nat) (l : List Ev) : Prop := ∃ (ks : List Int) (vo : Value), RowAt wr Bo [vo] ∧ wr.ownsRow w.heap.size 3 1 vo ks.length (ks.map (Value.int .i64)) ∧ Kept (fun b => b = Bo) w wr ∧
  ks.Nodup ∧ (∀ s ∈ ks, (Tr.look (Tr.und l) s).isSome = true) ∧ (∀ s, Wf s → (Tr.look (Tr.und l) s).isSome = true → s ∈ ks) ∧ ks.length ≤ l.length
structure RunAt (l : List Ev) (w0 : World) (B Bn Bo : Nat) (n j : Nat) (wr : World) : Prop where
  mp : Mp wr B j (Tr.und (l.take j))
  new : w0.heap.size ≤ B
  bn : RowAt wr Bn [.int .i64 n]
  before : j < n → RowAt wr Bo [.slice none 0 0] ∧ Kept (fun _ => False) w0 wr
  behind : j = n → 0 < n → RunFin w0 wr Bo l
theorem poss_job_lt {jobs : Int} {p : List Ev} {x : Ev} (h : Tr.poss jobs p x = 0) : x.kind = 6 ∨ x.job < jobs := by
  by_cases h1 : x.kind = 6
  · exact .inl h1
  · by_cases h2 : x.job < jobs
    · exact .inr h2
    · have := Tr.poss_job (p := p) (Tr.Ok.kinds h) h1 (by omega : jobs ≤ x.job)
      omega
set_option maxRecDepth 100000 in
set_option maxHeartbeats 4000000 in
theorem walkR_c {w : World} {aa : Option Addr} {n cap : Nat} {l : List Ev} (h : Evs w (.slice aa n cap) l) (hn : n = l.length) (hw : EvW l) (hl : n ≤ 1000000) (hok : Tr.Ok 64 l) {Bn Bo : Nat} (hbn : RowAt w Bn [.int .i64 n]) (hbo : RowAt w Bo [.slice none 0 0]) (hne : Bn ≠ Bo) (h0 : 0 < n)
    (hbk : ∀ b, (Value.slice aa n cap).ownBlock = some b → b ≠ Bo) :
    Calls Try.prog 47 #[.slice aa n cap, .int .i64 64, .func (.func 48) #[] #[.pointer (some ⟨Bn, 0, none⟩), .pointer (some ⟨Bo, 0, none⟩)]] w fun r w' => r = .returned (.tuple #[.int .i64 0, .int .i64 0]) ∧ RunFin w w' Bo l := by
  have HQ := Lib.hid h
  have HW := Lib.hid hw
  have HOK := Lib.hid hok
  have HMP := Lib.hid (MapOf.made (β := Ev) w Try.prog 3 evR evD)
  have HN := Lib.hid hn
  have hbl := hbn.lt
  have hol := hbo.lt
  have HBN := Lib.hid hbn
  have HBO := Lib.hid hbo
  clear h hn hw hok hbn hbo
  have HMK := Lib.hid ((Kept.refl (fun _ => False) w).alloc (.map #[] 0))
  have hmm := @run_makeMap Try.prog
  have hnil : ∀ W : World, Sem.run Try.prog (binOp BinOp.neq 71 (Value.func (.func 48) #[] #[.pointer (some ⟨Bn, 0, none⟩), .pointer (some ⟨Bo, 0, none⟩)]) Value.nilFunc) W = .ok (.bool true) W := fun W => by kernel_rfl
  go_enter Try.func47, Try.ntmps47
  go_wp2
  obtain ⟨B, hB⟩ : ∃ B, w.heap.size = B := ⟨_, rfl⟩
  have HBS := Lib.hid hB
  rw [hB] at HMP hbl hol ⊢
  clear hB hmm
  have HST : Hid (RunAt l w B Bn Bo n 0 (w.alloc (.map #[] 0))) := Lib.hid ⟨HMP.out, by rw [HBS.out]; exact Nat.le_refl _, HBN.out.same HMK.out, fun _ => ⟨HBO.out.same HMK.out, HMK.out⟩, fun q => by omega⟩
  clear HMP HMK
  generalize w.alloc (.map #[] 0) = w1 at HST ⊢
  go_loopw [9, 18] (fun lv iv wr => ∃ j : Nat, j ≤ n ∧ iv = .int .i64 j ∧ lv = .int .i64 (Tr.last (l.take j)) ∧ RunAt l w B Bn Bo n j wr) (fun _ i _ => match i with | .int _ x => (n - x).toNat | _ => 0)
  case atStart => exact ⟨0, Nat.zero_le _, rfl, rfl, HST.out⟩
  case round =>
    obtain ⟨j, hj, rfl, rfl, hwa⟩ := hrel
    have HA := Lib.hid hwa
    clear hwa
    by_cases hlt : j < n
    · have HKR := Lib.hid (HA.out.before hlt).2
      have HBOR := Lib.hid (HA.out.before hlt).1
      have hjl : j < l.length := by have := HN.out; omega
      obtain ⟨b0, off, cap', hv, hcp, hb0, hrows⟩ := (HQ.out.same HKR.out).pos (by have := HN.out; omega)
      rw [← HN.out] at hv
      injection hv with e1 e2 e3
      subst e1 e3
      have HX := Lib.hid (get_of hjl)
      have hrw := HW.out l[j] (List.getElem_mem hjl)
      have hlast := Tr.last_nonneg _ (HOK.out.take j)
      rw [List.length_take] at hlast
      obtain ⟨la, hla⟩ : ∃ la, Tr.last (l.take j) = la := ⟨_, rfl⟩
      have HL := Lib.hid hla
      have hl0 : 0 ≤ la ∧ la ≤ 1000000 := by rw [← hla]; have := HN.out; omega
      rw [hla]
      clear hla hlast
      have hx8 := hrows.ev HX.out
      generalize l[j] = x at HX hrw hx8
      have HP0 := Lib.hid (HOK.out j x HX.out)
      have hrw2 := hrw.le
      obtain ⟨a0, a1, a2, a3, a4, a5, a6, a7⟩ := hx8
      have HROW := Lib.hid (RowAt.new wr 35 (evC x).toArray)
      have HK0 := Lib.hid ((Kept.refl (fun _ => False) wr).alloc (.cells (evC x).toArray 35))
      have HRW := Lib.hid hrows
      have HWF := Lib.hid hrw
      clear hrows e2 hrw
      go_wp2_with (go_at_call 66; fail)
      refine (chk66_c x (by omega) _).mono ?_
      rintro e w2 ⟨rfl, K2⟩
      have HK2 := Lib.hid (HK0.out.trans K2 (fun _ _ h => h))
      have HR2 := Lib.hid (HROW.out.same K2)
      clear K2 HK0 HROW a0 a1 a2 a3 a4 a5 a6 a7
      obtain ⟨X, hX⟩ : ∃ X, wr.heap.size = X := ⟨_, rfl⟩
      rw [hX] at HR2 ⊢
      clear hX
      have c0 := HR2.out.get (j := 0) rfl
      have c1 := HR2.out.get (j := 1) rfl
      have c2 := HR2.out.get (j := 2) rfl
      have c3 := HR2.out.get (j := 3) rfl
      have c4 := HR2.out.get (j := 4) rfl
      have c5 := HR2.out.get (j := 5) rfl
      have c6 := HR2.out.get (j := 6) rfl
      have c7 := HR2.out.get (j := 7) rfl
      have hb := HR2.out.lt
      have hb2 := Nat.lt_of_lt_of_le hb0 HK2.out.size
      have hck := Tr.Ok.kinds HP0.out
      have HC := Lib.hid hck
      rw [hck]
      clear hck
      have HEA := Lib.hid (Tr.poss_at HP0.out).1
      -- what the round does at its end
      have END : Hid (∀ W, Mp W B (j + 1) (Tr.und (l.take (j + 1))) → Kept (fun b => b = B) wr W → RowAt W Bn [.int .i64 n] ∧ RowAt W Bo [.slice none 0 0] ∧ (∀ W2, j + 1 < n → Kept (fun _ => False) W W2 → RunAt l w B Bn Bo n (j + 1) W2) ∧ (∀ e W2, j + 1 = n → RunPost B Bo (j + 1) (Tr.und (l.take (j + 1))) W e W2 → RunAt l w B Bn Bo n (j + 1) W2)) := Lib.hid fun W hm K => by
        have hB := HBS.out
        have b1 := HA.out.bn.kept K (by omega)
        have b2 := HBOR.out.kept K (by omega)
        have kw := HKR.out.trans K (fun i hi e => by omega)
        refine ⟨b1, b2, fun W2 hj2 K2 => ⟨hm.same K2, HA.out.new, b1.same K2, fun _ => ⟨b2.same K2, kw.trans K2 (fun _ _ h => h)⟩, fun q => by omega⟩, fun e W2 hj2 hp => ?_⟩
        obtain ⟨-, ks, vo, p1, p2, p3, p4, p5, p6, p7, p8⟩ := hp
        refine ⟨p8, HA.out.new, b1.kept p3 hne, fun q => by omega, fun _ _ => ⟨ks, vo, p1, ownsRow_base p2 kw.size, (kw.mono (T := fun b => b = Bo) fun _ _ h => h.elim).trans p3 (fun i hi e => e), p4, ?_⟩⟩
        have ht : l.take (j + 1) = l := List.take_of_length_le (by have := HN.out; omega)
        rw [ht] at p5 p6
        exact ⟨p5, p6, by have := HN.out; omega⟩
      by_cases hk6 : x.kind = 6
      · have HK6 := Lib.hid hk6
        rw [hk6] at c0
        clear hk6
        go_upto_region 11 with fail
        go_cut [51] from 39 to 51 (fun s wx => s = .bool false ∧ Kept (fun _ => False) w2 wx)
        case first =>
          rcases Nat.eq_zero_or_pos j with h0 | h0
          · subst h0
            go_quiet (fail)
            go_wp2_with fail
            go_meet
            exact ⟨rfl, (Kept.refl _ _).drewN _⟩
          · obtain ⟨k, rfl⟩ : ∃ k, j = k + 1 := ⟨j - 1, by omega⟩
            have hkl : k < l.length := by omega
            have hy := (HRW.out.kept hb0 HK2.out (fun h => h)).ev (get_of hkl)
            have HEA2 := Lib.hid (Tr.early_succ (x := x) (get_of hkl))
            generalize l[k] = y at hy HEA2
            have d1 := hy.c1
            clear hy
            have hj1 : (0 : Int) ≤ (k : Int) := by omega
            have hj2 : (k : Int) < n := by omega
            have hwr : IntKind.i64.wrap (((k + 1 : Nat) : Int) - 1) = k := by rw [show ((k + 1 : Nat) : Int) - 1 = (k : Int) by omega]; exact IntWalk.i64_in _ (by omega)
            have hty : ¬ x.t < y.t := by
              have h1 := HEA.out
              rw [HEA2.out] at h1
              simpa using h1
            go_quiet (fail)
            go_wp2_with fail
            go_meet
            exact ⟨rfl, (Kept.refl _ _).drewN _⟩
        case rest =>
          obtain ⟨rfl, KX0⟩ := hcut
          obtain ⟨wx, hwx, KX⟩ := name_w KX0
          clear KX0
          subst hwx
          have HR3 := Lib.hid (HR2.out.same KX)
          have HKX := Lib.hid (HK2.out.trans KX (fun _ _ h => h))
          clear KX c0 c1 c2 c3 c4 c5 c6 c7 hb hb2
          have c0 := HR3.out.get (j := 0) rfl
          have c1 := HR3.out.get (j := 1) rfl
          have c2 := HR3.out.get (j := 2) rfl
          have c3 := HR3.out.get (j := 3) rfl
          have c4 := HR3.out.get (j := 4) rfl
          have c5 := HR3.out.get (j := 5) rfl
          have c6 := HR3.out.get (j := 6) rfl
          have c7 := HR3.out.get (j := 7) rfl
          have hb := HR3.out.lt
          have hk6' := HK6.out
          have HWG := Lib.hid (Tr.walk_good HX.out (HOK.out.take j) HP0.out)
          have HMM : Hid (Mp wx B (j + 1) (Tr.und (l.take (j + 1)))) := Lib.hid (by
            rw [HWG.out.2.2]
            unfold Tr.ustep
            rw [if_neg (by omega), if_neg (by omega)]
            exact (HA.out.mp.same HKX.out).mono (Nat.le_succ _))
          have HKK : Hid (Kept (fun b => b = B) wr wx) := Lib.hid (HKX.out.mono fun _ _ h => h.elim)
          have HLN : Hid (Tr.last (l.take (j + 1)) = la) := Lib.hid (by
            rw [HWG.out.2.1]
            unfold Tr.lstep
            rw [if_neg (by omega), HL.out])
          rw [hk6'] at c0
          clear hk6'
          obtain ⟨z1, z2, z3, z4⟩ := END.out _ HMM.out HKK.out
          have HZ1 := Lib.hid z1
          have HZ2 := Lib.hid z2
          have HZ3 := Lib.hid z3
          have HZ4 := Lib.hid z4
          clear z1 z2 z3 z4
          by_cases hlst : j + 1 < n
          · go_wp2_with (go_at_call 48; fail)
            refine (run1_skip j n B (j + 1) Bn Bo _ HZ1.out (by omega) (by omega)).mono ?_
            rintro e w6 ⟨rfl, rfl⟩
            have HNX := Lib.hid (HZ3.out _ hlst (Kept.refl _ _))
            go_wp2
            go_roundw
            case rel => exact ⟨j + 1, by omega, by go_num, by rw [HLN.out], HNX.out⟩
            case measure => simp; omega
          · go_wp2_with (go_at_call 48; fail)
            refine (run1_go j n B (j + 1) Bn Bo _ _ HZ1.out (by omega) (by omega) (by omega) HMM.out HZ2.out (by omega)).mono ?_
            intro e w6 hp
            have HNX := Lib.hid (HZ4.out e w6 (by omega) hp)
            obtain ⟨rfl, -⟩ := hp
            go_wp2
            go_roundw
            case rel => exact ⟨j + 1, by omega, by go_num, by rw [HLN.out], HNX.out⟩
            case measure => simp; omega
      · have hjb2 : ¬ (64 ≤ x.job) := by have := poss_job_lt HP0.out; omega
        have hk6b : (x.kind == 6) = false := by simpa using hk6
        have hk6c : (x.kind != 6) = true := by simpa using hk6
        go_upto_region 11 with fail
        go_cut [51] from 39 to 51 (fun s wx => s = .bool false ∧ Kept (fun _ => False) w2 wx)
        case first =>
          rcases Nat.eq_zero_or_pos j with h0 | h0
          · subst h0
            go_quiet (fail)
            go_wp2_with fail
            go_meet
            exact ⟨rfl, (Kept.refl _ _).drewN _⟩
          · obtain ⟨k, rfl⟩ : ∃ k, j = k + 1 := ⟨j - 1, by omega⟩
            have hkl : k < l.length := by omega
            have hy := (HRW.out.kept hb0 HK2.out (fun h => h)).ev (get_of hkl)
            have HEA2 := Lib.hid (Tr.early_succ (x := x) (get_of hkl))
            generalize l[k] = y at hy HEA2
            have d1 := hy.c1
            clear hy
            have hj1 : (0 : Int) ≤ (k : Int) := by omega
            have hj2 : (k : Int) < n := by omega
            have hwr : IntKind.i64.wrap (((k + 1 : Nat) : Int) - 1) = k := by rw [show ((k + 1 : Nat) : Int) - 1 = (k : Int) by omega]; exact IntWalk.i64_in _ (by omega)
            have hty : ¬ x.t < y.t := by
              have h1 := HEA.out
              rw [HEA2.out] at h1
              simpa using h1
            go_quiet (fail)
            go_wp2_with fail
            go_meet
            exact ⟨rfl, (Kept.refl _ _).drewN _⟩
        case rest =>
          obtain ⟨rfl, KX0⟩ := hcut
          obtain ⟨wx, hwx, KX⟩ := name_w KX0
          clear KX0
          subst hwx
          have HR3 := Lib.hid (HR2.out.same KX)
          have HKX := Lib.hid (HK2.out.trans KX (fun _ _ h => h))
          clear KX c0 c1 c2 c3 c4 c5 c6 c7 hb hb2
          have c0 := HR3.out.get (j := 0) rfl
          have c1 := HR3.out.get (j := 1) rfl
          have c2 := HR3.out.get (j := 2) rfl
          have c3 := HR3.out.get (j := 3) rfl
          have c4 := HR3.out.get (j := 4) rfl
          have c5 := HR3.out.get (j := 5) rfl
          have c6 := HR3.out.get (j := 6) rfl
          have c7 := HR3.out.get (j := 7) rfl
          have hb := HR3.out.lt
          by_cases k1 : x.kind = 1
          · have K1 := Lib.hid k1
            have k1a : (x.kind == 1) = true := by simpa using k1
            have hrn := (Tr.poss_at HP0.out).2.1 k1
            rw [HL.out] at hrn
            have HRN := Lib.hid hrn
            have hsum : IntKind.i64.wrap (la + 1) = la + 1 := IntWalk.i64_in _ (by omega)
            have hrb : (x.run != la + 1) = false := by simpa using hrn
            have hrb2 : (x.run == la + 1) = true := by simpa using hrn
            clear hrn k1 hk6b hk6c hk6
            have hx0 := hrw2
            have HM3 := Lib.hid (HA.out.mp.same HKX.out)
            have HWG := Lib.hid (Tr.walk_good HX.out (HOK.out.take j) HP0.out)
            have HLN : Hid (Tr.last (l.take (j + 1)) = x.run) := Lib.hid (by
              rw [HWG.out.2.1]
              unfold Tr.lstep
              rw [if_pos K1.out])
            go_wp2_with (first | (at_mapUpdate; refine wpList_store_of evCode rfl _ _ _ 70 rfl 35 Try.underlying3 Try.underlying70 B j _ rfl HM3.out (by unfold maxLen; omega) x.run rfl HWF.out x rfl ?_; intro w5 HM5 K5; have HM5' := Lib.hid HM5; have HK5 := Lib.hid K5; clear HM5 K5) | (go_at_call 48; fail))
            have HMM : Hid (Mp w5 B (j + 1) (Tr.und (l.take (j + 1)))) := Lib.hid (by
              rw [HWG.out.2.2]
              unfold Tr.ustep
              rw [if_pos K1.out]
              exact Mp.snoc HM5'.out (fun e he => by
                have := (Tr.last_nonneg _ (HOK.out.take j)).2.2.2 e he
                have h1 := HRN.out
                have h2 := HL.out
                omega))
            have HKK : Hid (Kept (fun b => b = B) wr w5) := Lib.hid ((HKX.out.mono fun _ _ h => h.elim).trans HK5.out (fun _ _ h => h))
            obtain ⟨z1, z2, z3, z4⟩ := END.out _ HMM.out HKK.out
            have HZ1 := Lib.hid z1
            have HZ2 := Lib.hid z2
            have HZ3 := Lib.hid z3
            have HZ4 := Lib.hid z4
            clear z1 z2 z3 z4
            by_cases hlst : j + 1 < n
            · go_wp2_with (go_at_call 48; fail)
              refine (run1_skip j n B (j + 1) Bn Bo _ HZ1.out (by omega) (by omega)).mono ?_
              rintro e w6 ⟨rfl, rfl⟩
              have HNX := Lib.hid (HZ3.out _ hlst (Kept.refl _ _))
              go_wp2
              go_roundw
              case rel => exact ⟨j + 1, by omega, by go_num, by rw [HLN.out], HNX.out⟩
              case measure => simp; omega
            · go_wp2_with (go_at_call 48; fail)
              refine (run1_go j n B (j + 1) Bn Bo _ _ HZ1.out (by omega) (by omega) (by omega) HMM.out HZ2.out (by omega)).mono ?_
              intro e w6 hp
              have HNX := Lib.hid (HZ4.out e w6 (by omega) hp)
              obtain ⟨rfl, -⟩ := hp
              go_wp2
              go_roundw
              case rel => exact ⟨j + 1, by omega, by go_num, by rw [HLN.out], HNX.out⟩
              case measure => simp; omega
          · by_cases k2 : x.kind = 2 ∨ x.kind = 3
            · have K2 := Lib.hid k2
              have K1 := Lib.hid k1
              obtain ⟨y, hlk, -, -, hy1, hy2, hy3⟩ := Tr.und_end (HOK.out.take j) HP0.out k2
              have HLK := Lib.hid hlk
              have g1 : (y.job != x.job) = false := by simpa using hy1
              have g2 : (y.due != x.due) = false := by simpa using hy2
              have g3 : (y.att != x.att) = false := by simpa using hy3
              have g1' : (y.job == x.job) = true := by simpa using hy1
              have g2' : (y.due == x.due) = true := by simpa using hy2
              have g3' : (y.att == x.att) = true := by simpa using hy3
              have kk : ((x.kind == 1) = false ∧ (x.kind == 2) = true) ∨ ((x.kind == 1) = false ∧ (x.kind == 2) = false ∧ (x.kind == 3) = true) := by
                rcases k2 with k2 | k2
                · exact .inl ⟨by simp; omega, by simpa using k2⟩
                · exact .inr ⟨by simp; omega, by simp; omega, by simpa using k2⟩
              clear hlk hy1 hy2 hy3 k1 k2 hk6b hk6c hk6
              have HM3 := Lib.hid (HA.out.mp.same HKX.out)
              have HWG := Lib.hid (Tr.walk_good HX.out (HOK.out.take j) HP0.out)
              have HLN : Hid (Tr.last (l.take (j + 1)) = la) := Lib.hid (by
                rw [HWG.out.2.1]
                unfold Tr.lstep
                rw [if_neg K1.out, HL.out])
              rcases kk with ⟨k1a, k2a⟩ | ⟨k1a, k2a, k3a⟩
              all_goals
                go_wp2_with (first
                  | (at_lookup; refine wpList_look_some evCode rfl _ _ 70 rfl 35 Try.underlying3 Try.underlying70 ev0 (zero35 _) B j _ rfl HM3.out x.run rfl HWF.out y HLK.out ?_)
                  | (at_delete; refine wpList_delete_of rfl _ _ 70 rfl 35 Try.underlying3 Try.underlying70 B j _ rfl (HM3.out.same ((Kept.refl _ _).alloc _)) x.run rfl HWF.out ?_; intro w5 HM5 K5; have HM5' := Lib.hid HM5; have HK5 := Lib.hid K5; clear HM5 K5)
                  | (go_at_call 48; fail))
                have HMM : Hid (Mp w5 B (j + 1) (Tr.und (l.take (j + 1)))) := Lib.hid (by
                  rw [HWG.out.2.2]
                  unfold Tr.ustep
                  rw [if_neg K1.out, if_pos K2.out]
                  exact (Mp.filter HM5'.out).mono (Nat.le_succ _))
                have HKK : Hid (Kept (fun b => b = B) wr w5) := Lib.hid (((HKX.out.alloc _).mono fun _ _ h => h.elim).trans HK5.out (fun _ _ h => h))
                obtain ⟨z1, z2, z3, z4⟩ := END.out _ HMM.out HKK.out
                have HZ1 := Lib.hid z1
                have HZ2 := Lib.hid z2
                have HZ3 := Lib.hid z3
                have HZ4 := Lib.hid z4
                clear z1 z2 z3 z4
                by_cases hlst : j + 1 < n
                · go_wp2_with (go_at_call 48; fail)
                  refine (run1_skip j n B (j + 1) Bn Bo _ HZ1.out (by omega) (by omega)).mono ?_
                  rintro e w6 ⟨rfl, rfl⟩
                  have HNX := Lib.hid (HZ3.out _ hlst (Kept.refl _ _))
                  go_wp2
                  go_roundw
                  case rel => exact ⟨j + 1, by omega, by go_num, by rw [HLN.out], HNX.out⟩
                  case measure => simp; omega
                · go_wp2_with (go_at_call 48; fail)
                  refine (run1_go j n B (j + 1) Bn Bo _ _ HZ1.out (by omega) (by omega) (by omega) HMM.out HZ2.out (by omega)).mono ?_
                  intro e w6 hp
                  have HNX := Lib.hid (HZ4.out e w6 (by omega) hp)
                  obtain ⟨rfl, -⟩ := hp
                  go_wp2
                  go_roundw
                  case rel => exact ⟨j + 1, by omega, by go_num, by rw [HLN.out], HNX.out⟩
                  case measure => simp; omega
            · have k2a : (x.kind == 2) = false := by simp; omega
              have k3a : (x.kind == 3) = false := by simp; omega
              have k1a : (x.kind == 1) = false := by simpa using k1
              have HWG := Lib.hid (Tr.walk_good HX.out (HOK.out.take j) HP0.out)
              have HMM : Hid (Mp wx B (j + 1) (Tr.und (l.take (j + 1)))) := Lib.hid (by
                rw [HWG.out.2.2]
                unfold Tr.ustep
                rw [if_neg (by omega), if_neg (by omega)]
                exact (HA.out.mp.same HKX.out).mono (Nat.le_succ _))
              have HKK : Hid (Kept (fun b => b = B) wr wx) := Lib.hid (HKX.out.mono fun _ _ h => h.elim)
              have HLN : Hid (Tr.last (l.take (j + 1)) = la) := Lib.hid (by
                rw [HWG.out.2.1]
                unfold Tr.lstep
                rw [if_neg (by omega), HL.out])
              clear k1 k2 hk6b hk6c hk6
              obtain ⟨z1, z2, z3, z4⟩ := END.out _ HMM.out HKK.out
              have HZ1 := Lib.hid z1
              have HZ2 := Lib.hid z2
              have HZ3 := Lib.hid z3
              have HZ4 := Lib.hid z4
              clear z1 z2 z3 z4
              by_cases hlst : j + 1 < n
              · go_wp2_with (go_at_call 48; fail)
                refine (run1_skip j n B (j + 1) Bn Bo _ HZ1.out (by omega) (by omega)).mono ?_
                rintro e w6 ⟨rfl, rfl⟩
                have HNX := Lib.hid (HZ3.out _ hlst (Kept.refl _ _))
                go_wp2
                go_roundw
                case rel => exact ⟨j + 1, by omega, by go_num, by rw [HLN.out], HNX.out⟩
                case measure => simp; omega
              · go_wp2_with (go_at_call 48; fail)
                refine (run1_go j n B (j + 1) Bn Bo _ _ HZ1.out (by omega) (by omega) (by omega) HMM.out HZ2.out (by omega)).mono ?_
                intro e w6 hp
                have HNX := Lib.hid (HZ4.out e w6 (by omega) hp)
                obtain ⟨rfl, -⟩ := hp
                go_wp2
                go_roundw
                case rel => exact ⟨j + 1, by omega, by go_num, by rw [HLN.out], HNX.out⟩
                case measure => simp; omega
    · obtain rfl : j = n := by omega
      go_wp2
      go_ret2
      exact ⟨rfl, HA.out.behind rfl h0⟩
end Go.Proofs.Ytfhlllmicobafaa
