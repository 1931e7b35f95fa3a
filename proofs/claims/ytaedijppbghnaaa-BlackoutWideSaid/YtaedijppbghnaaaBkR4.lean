/- The reference's result. -/
import Derived.Test.YtaedijppbghnaaaBkR3
import Derived.Test.YtaedijppbghnaaaGeOpen
namespace Go.Proofs.Ytaedijppbghnaaa
open Go.RowKit
open Bk (Sp ins bords rfold rext has)
attribute [local go_sem] Oper.semAt_some

theorem wpList_appP {ops : Array Oper} {rest : List Oper} {o : Oper} {a : Act} {Q : Exit → Act → World → Prop} (hgd : o.guard = none) (s x : Operand)
    (ho : o.op = .call { callee := .builtin .append, args := #[s, x], argTypes := #[23, 23] }) {W : World} (base : Nat) (v : Value) (n : Nat) (xs : List Value) (hs : a.eval s = v)
    (hown : W.ownsRow base 42 2 v n xs) (va : Value) (l : List Sp) (hp : Prs W va l) (hz : Nz va) (hx : a.eval x = va)
    (h63 : n + l.length ≤ maxLen) (hbytes : (n + l.length) * 16 ≤ 140737488355328) (hbase : base ≤ W.heap.size)
    (h : ∀ v' w', w'.ownsRow base 42 2 v' (n + l.length) (xs ++ pc l) → Kept (fun b => v.ownBlock = some b) W w' → wpList Try.prog ops Q rest (a.put o.dst v') w') :
    wpList Try.prog ops Q (o :: rest) a W := by
  rcases hp with ⟨ad, cap, rfl, rfl⟩ | ⟨b, off, cap, rfl, hb, hc⟩
  · cases ad with
    | none =>
      obtain ⟨-, rfl⟩ := hz _ _ rfl
      exact wpList_appNil el23 hgd s x ho base v n xs hs hown hx (h v W (by simpa [pc] using hown) (Kept.refl _ _))
    | some ad =>
      obtain ⟨i, z, hi, hz2, hsz, hby, hzs⟩ := el23.info
      refine wpList_append_own _ hgd s x 23 ho base 42 i z 2 16 el23.under hi hz2 hsz hby hzs (by decide) v n xs hs hown ad 0 cap [] hx rfl (fun j u hj => by simp at hj) (fun u hu => by simp at hu) h63 hbytes hbase ?_
      intro v' w' hown' hg _
      exact h v' w' (by simpa [pc] using hown') (Kept.of_grown hg)
  · refine wpList_appA el23 hgd s x ho base v n xs hs hown b off l.length cap (pc l) hx (pc_length l) (pc_one l) ?_ h63 hbytes hbase h
    intro j u hj
    have hjl := (List.getElem?_eq_some_iff.1 hj).1
    rw [pc_length] at hjl
    have hx2 : l[j / 2]? = some l[j / 2] := List.getElem?_eq_getElem (by omega)
    have hg := pc_get hx2
    have hcc := hc (j / 2) _ hx2
    rcases Nat.mod_two_eq_zero_or_one j with e | e
    · have e2 : j / 2 * 2 = j := by omega
      rw [e2] at hg hcc
      rw [hg.1] at hj
      rw [← hj]; exact hcc.1
    · have e2 : j / 2 * 2 + 1 = j := by omega
      rw [Nat.add_assoc, e2] at hcc
      rw [e2] at hg
      rw [hg.2] at hj
      rw [← hj]; exact hcc.2
/-- A row in the making, of pairs. -/
def PS (w wk : World) (v : Value) (n : Nat) (xs : List Value) : Prop := wk.ownsRow w.heap.size 42 2 v n xs ∧ w.heap.size ≤ wk.heap.size ∧ Kept (fun _ => False) w wk
theorem PS.step {w w1 w2 : World} {v1 v2 : Value} {n1 n2 : Nat} {x1 x2 : List Value} (h : PS w w1 v1 n1 x1) (h2 : w2.ownsRow w.heap.size 42 2 v2 n2 x2) (K : Kept (fun b => v1.ownBlock = some b) w1 w2) : PS w w2 v2 n2 x2 :=
  ⟨h2, Nat.le_trans h.2.1 K.size, h.2.2.trans K fun i hi hv => by have := (ownsRow_block h.1 hv).1; omega⟩
theorem PS.start (w : World) : PS w w (.slice none 0 0) 0 [] := ⟨⟨rfl, .inl ⟨rfl, rfl⟩⟩, Nat.le_refl _, Kept.refl _ _⟩
theorem rfold_step (W : Int → Bool) {B : List Int} {j : Nat} (h : j + 1 < B.length) (out : List Sp) : rfold W (B.drop j) out = rfold W (B.drop (j + 1)) (if W B[j] then rext out B[j] B[j + 1] else out) := by
  rw [List.drop_eq_getElem_cons (by omega : j < B.length), List.drop_eq_getElem_cons h, rfold]
theorem rfold_end (W : Int → Bool) {B : List Int} {j : Nat} (h : ¬ j + 1 < B.length) (out : List Sp) : rfold W (B.drop j) out = out := by
  have : (B.drop j).length ≤ 1 := by rw [List.length_drop]; omega
  rcases hb : B.drop j with _ | ⟨x, _ | ⟨y, r⟩⟩
  · rfl
  · rfl
  · rw [hb] at this; simp at this
theorem rext_len (out : List Sp) (x y : Int) : (rext out x y).length ≤ out.length + 1 := by
  unfold rext
  split
  · split <;> simp
  · simp
def ResP (k : Int) (a b : List Sp) (w : World) (e : Ending) (w' : World) : Prop := ∃ v', e = .returned v' ∧ Prs w' v' (Bk.rres (wantK k) a b) ∧ (∀ c, v'.ownBlock = some c → w.heap.size ≤ c) ∧ Nz v' ∧ Kept (fun _ => False) w w'
theorem bords_bd {l : List Sp} (h : Bk.Good l) : ∀ x ∈ bords l, 0 ≤ x ∧ x ≤ 253402300800 := fun x hx => by
  obtain ⟨s, hs, e⟩ := ((Bk.bords_law l).2 x).1 hx
  have h1 := h.le s hs
  have h2 := h.lo s hs
  have h3 := h.hi s hs
  omega
theorem good_app {a b : List Sp} (ha : Bk.Good a) (hb : Bk.Good b) : Bk.Good (a ++ b) :=
  ⟨fun s hs => (List.mem_append.1 hs).elim (ha.le s) (hb.le s), fun s hs => (List.mem_append.1 hs).elim (ha.lo s) (hb.lo s), fun s hs => (List.mem_append.1 hs).elim (ha.hi s) (hb.hi s)⟩
set_option maxRecDepth 100000 in
set_option maxHeartbeats 4000000 in
theorem rresult_c {w : World} {va vb : Value} {a b : List Sp} (ha : Prs w va a) (hb : Prs w vb b) (za : Nz va) (zb : Nz vb) (hla : a.length ≤ 200) (hlb : b.length ≤ 200) (ga : Bk.Good a) (gb : Bk.Good b) (k : Int) (hk : k = 1 ∨ k = 2 ∨ k = 3) :
    Calls Try.prog 45 #[va, vb, .int .i64 k] w (ResP k a b w) := by
  have HA := Lib.hid ha
  have HB := Lib.hid hb
  have HZA := Lib.hid za
  have HZB := Lib.hid zb
  have HPS := Lib.hid (PS.start w)
  have HL := Lib.hid (And.intro hla hlb)
  have HBC : Hid (∀ W v, Prs W v (a ++ b) → Calls Try.prog 54 #[v] W (BordPost (a ++ b) W)) := Lib.hid fun W v h => rbords_c h (by rw [List.length_append]; omega) (good_app ga gb)
  have HWC : Hid (∀ W t, Kept (fun _ => False) w W → Calls Try.prog 55 #[va, vb, .int .i64 t, .int .i64 k] W fun e w' => e = .returned (.bool (wantK k (has a t) (has b t))) ∧ Kept (fun _ => False) W w') := Lib.hid fun W t K => wanted_c (ha.same K) (hb.same K) (by omega) (by omega) t k hk
  have HBD : Hid (∀ x ∈ bords (a ++ b), 0 ≤ x ∧ x ≤ 253402300800) := Lib.hid (bords_bd (good_app ga gb))
  have HRR : Hid (rfold (fun t => wantK k (has a t) (has b t)) (bords (a ++ b)) [] = Bk.rres (wantK k) a b) := Lib.hid rfl
  have HBL : Hid ((bords (a ++ b)).length ≤ 800) := Lib.hid (by have := bords_len (a ++ b); rw [List.length_append] at this; omega)
  have HN : Hid (0 + a.length ≤ maxLen ∧ (0 + a.length) * 16 ≤ 140737488355328 ∧ a.length + b.length ≤ maxLen ∧ (a.length + b.length) * 16 ≤ 140737488355328) := Lib.hid (by unfold maxLen; omega)
  clear ha hb za zb hla hlb ga gb hk
  go_enter Try.func45, Try.ntmps45
  go_wp2_with (at_builtin; first
    | (refine wpList_appP rfl (.tmp 12) (.tmp 13) rfl w.heap.size (.slice none 0 0) 0 [] rfl HPS.out.1 va a HA.out HZA.out rfl HN.out.1 HN.out.2.1 (Nat.le_refl _) ?_; rintro v1 w1 hown1 K1; have HO1 : Hid (PS w w1 v1 a.length (pc a)) := Lib.hid (by simpa using HPS.out.step hown1 K1); clear hown1 K1)
    | (refine wpList_appP rfl (.tmp 15) (.tmp 16) rfl w.heap.size v1 a.length (pc a) rfl HO1.out.1 vb b (HB.out.same HO1.out.2.2) HZB.out rfl HN.out.2.2.1 HN.out.2.2.2 HO1.out.2.1 ?_; rintro v2 w2 hown2 K2; have HO2 : Hid (PS w w2 v2 (a ++ b).length (pc (a ++ b))) := Lib.hid (by rw [List.length_append, pc_append]; exact HO1.out.step hown2 K2); clear hown2 K2)
    | fail)
  refine (HBC.out w2 v2 (Prs.of_own HO2.out.1)).mono ?_
  rintro e w3 ⟨v3, rfl, hI3, K3⟩
  have HK3 := Lib.hid (HO2.out.2.2.trans K3 (fun _ _ h => h))
  have HI3 := Lib.hid hI3
  have HSZ : Hid (w.heap.size ≤ w3.heap.size) := Lib.hid HK3.out.size
  obtain ⟨B, hB⟩ : ∃ B, bords (a ++ b) = B := ⟨_, rfl⟩
  rw [hB] at HI3 HBD HRR HBL
  clear hI3 K3 HBC HO1 HO2 HPS hB HN
  generalize hW : (fun t => wantK k (has a t) (has b t)) = W at HRR
  have HW : Hid (∀ t, wantK k (has a t) (has b t) = W t) := Lib.hid fun t => by rw [← hW]
  clear hW
  obtain ⟨n, hn⟩ : ∃ n, B.length = n := ⟨_, rfl⟩
  obtain ⟨p3, c3, rfl⟩ : ∃ p c, v3 = .slice p n c := by
    rcases HI3.out with ⟨rfl, rfl⟩ | ⟨b, off, cap, rfl, -⟩
    · exact ⟨none, 0, by rw [← hn]; rfl⟩
    · exact ⟨_, cap, by rw [hn]⟩
  have hn800 : n ≤ 800 := by have := HBL.out; omega
  have HNB := Lib.hid hn
  clear hn
  go_wp2
  go_loopw [9, 10] (fun s i wr => ∃ (j : Nat) (out : List Sp), i = .int .i64 j ∧ j ≤ n ∧ (j + 1 ≤ n ∨ j = 0) ∧ wr.ownsRow w3.heap.size 42 2 s out.length (pc out) ∧ out.length ≤ j ∧ rfold W B [] = rfold W (B.drop j) out ∧ Kept (fun _ => False) w3 wr ∧ w3.heap.size ≤ wr.heap.size) (fun _ i _ => match i with | .int _ x => (n - x).toNat | _ => 0)
  case atStart => exact ⟨0, [], rfl, Nat.zero_le _, .inr rfl, ⟨rfl, .inl ⟨rfl, rfl⟩⟩, Nat.zero_le _, rfl, Kept.refl _ _, Nat.le_refl _⟩
  case round =>
    obtain ⟨j, out, rfl, hj, hj1, hown, hol, hrf, K, hsz⟩ := hrel
    have HO := Lib.hid hown
    have HRF := Lib.hid (HRR.out.symm.trans hrf)
    have HK := Lib.hid K
    have HWR : Hid (∀ t W, Kept (fun _ => False) w3 W → Calls Try.prog 55 #[va, vb, .int .i64 t, .int .i64 k] W fun e w' => e = .returned (.bool (wantK k (has a t) (has b t))) ∧ Kept (fun _ => False) W w') := Lib.hid fun t W K => HWC.out W t (HK3.out.trans K (fun _ _ h => h))
    obtain ⟨ps, cs, rfl⟩ : ∃ p c, u9 = .slice p out.length c := by
      rcases hown.2 with ⟨rfl, h0⟩ | ⟨g, cap, cur, rfl, -⟩
      · exact ⟨none, 0, by rw [h0]⟩
      · exact ⟨_, cap, rfl⟩
    clear hown K
    by_cases hlt : j + 1 < n
    · have hjB : j + 1 < B.length := by have := HNB.out; omega
      have hbx := HBD.out B[j] (List.getElem_mem _)
      have hby := HBD.out B[j + 1] (List.getElem_mem _)
      have hst := rfold_step W hjB out
      obtain ⟨b3, off, cap', hv, hcc, hb3, hr3⟩ : ∃ b off cap, Value.slice p3 n c3 = .slice (some ⟨b, off, none⟩) n cap ∧ (B.length ≤ cap ∧ cap ≤ maxLen) ∧ b < w3.heap.size ∧ w3.rangeAt b off (B.map (Value.int .i64)) := by
        rcases HI3.out with ⟨-, h0⟩ | ⟨b, off, cap, h1, h2⟩
        · rw [h0] at hjB; simp at hjB
        · exact ⟨b, off, cap, by rw [h1, HNB.out], h2⟩
      injection hv with e1 e2 e3
      subst e1 e3
      have hg : ∀ W, Kept (fun _ => False) w3 W → W.cell? ⟨b3, off + j, none⟩ = some (.int .i64 B[j]) ∧ W.cell? ⟨b3, off + (j + 1), none⟩ = some (.int .i64 B[j + 1]) := fun W K =>
        ⟨(K.cell (a := ⟨b3, off + j, none⟩) hb3 (fun h => h)).trans (hr3 j _ (by rw [List.getElem?_map, List.getElem?_eq_getElem (by omega)]; rfl)),
         (K.cell (a := ⟨b3, off + (j + 1), none⟩) hb3 (fun h => h)).trans (hr3 (j + 1) _ (by rw [List.getElem?_map, List.getElem?_eq_getElem (by omega)]; rfl))⟩
      rw [hst] at hrf
      generalize B[j] = x at hbx hrf hg
      generalize B[j + 1] = y at hby hrf hg
      have HST := Lib.hid hrf
      have HG := Lib.hid hg
      have c0 := (hg wr HK.out).1
      clear hst hr3 hcc hg hrf hjB
      obtain ⟨r, hr⟩ : ∃ r, W x = r := ⟨_, rfl⟩
      rw [hr] at HST
      have HWX := Lib.hid hr
      clear hr
      go_wp2_with (go_at_call 55; fail)
      refine (HWR.out x wr HK.out).mono ?_
      rintro e w4 ⟨rfl, K4⟩
      rw [HW.out, HWX.out]
      have KK := Lib.hid (HK.out.trans K4 (fun _ _ h => h))
      have own4 := ownsRow_kept HO.out K4 (fun _ _ _ h => h)
      have hsz4 := Nat.le_trans hsz K4.size
      have c0 := (HG.out w4 KK.out).1
      have c1 := (HG.out w4 KK.out).2
      clear K4 HO HWX HW HG
      cases r with
      | false =>
        have HNX : Hid (w4.ownsRow w3.heap.size 42 2 (.slice ps out.length cs) out.length (pc out) ∧ out.length ≤ j + 1 ∧ rfold W B [] = rfold W (B.drop (j + 1)) out ∧ w3.heap.size ≤ w4.heap.size) := Lib.hid ⟨own4, by omega, by simpa using HST.out, hsz4⟩
        clear own4 HST
        go_wp2
        go_roundw
        case rel => exact ⟨j + 1, out, by go_num, by omega, by omega, HNX.out.1, HNX.out.2.1, HNX.out.2.2.1, KK.out, HNX.out.2.2.2⟩
        case measure => simp; omega
      | true =>
        rcases List.eq_nil_or_concat out with ho | ⟨o, ⟨f, u⟩, ho⟩
        · subst ho
          have HEX : Hid (rext [] x y = [(x, y - 1)]) := Lib.hid rfl
          rw [List.length_nil] at own4 ⊢
          have hq : ∀ m, Kept (fun _ => False) w3 (w4.drewN m) ∧ (w4.drewN m).ownsRow w3.heap.size 42 2 (Value.slice ps 0 cs) 0 [] ∧ w3.heap.size ≤ (w4.drewN m).heap.size ∧ (w4.drewN m).cell? ⟨b3, off + j, none⟩ = some (.int .i64 x) ∧ (w4.drewN m).cell? ⟨b3, off + (j + 1), none⟩ = some (.int .i64 y) := fun m => ⟨KK.out.drewN m, own4, hsz4, c0, c1⟩
          have HQ := Lib.hid hq
          clear hq
          have hjn : j < n := by omega
          go_wp2
          go_quiet (fail)
          rename_i nq _
          have hq := HQ.out nq
          generalize w4.drewN nq = W4 at hq ⊢
          clear own4 c0 c1 HQ KK hsz4
          obtain ⟨KKq, ownq, hszq, c0, c1⟩ := hq


          obtain ⟨i, z, hi, hz, hsz1, hby, hzs⟩ := el23.info
          obtain ⟨v', w5, hrun, own5, hg5, hor⟩ := run_append_new (P := Try.prog) ((W4.alloc (.cells #[.int .i64 x, .int .i64 (y - 1)] 42)).drew) w3.heap.size 23 23 42 i z 2 16 Try.underlying23 hi hz hsz1 hby hzs (by decide) (Value.slice ps 0 cs) 0 [] (ownq.alloc _) ⟨W4.heap.size, 0, none⟩ 1 1 [.int .i64 x, .int .i64 (y - 1)] rfl
            (fun j u hj => by rw [Addr.add_mid, Nat.zero_add]; show (W4.alloc (.cells #[.int .i64 x, .int .i64 (y - 1)] 42)).cell? _ = _; rw [World.cell?_alloc_at _ _ _ _ rfl]; simpa using hj) (by intro u hu; simp at hu; rcases hu with rfl | rfl <;> rfl) (by unfold maxLen; omega) (by omega) (by simp; omega) (by decide)
          have K5 : Kept (fun b => Value.ownBlock (Value.slice ps 0 cs) = some b) W4 w5 := ((Kept.refl _ W4).alloc _).drew.trans (Kept.of_grown hg5) (fun i _ q => q)
          have K6 := Lib.hid (KKq.trans K5 (fun i hi q => by have := (ownsRow_block ownq q).1; omega))
          have HNX : Hid (w5.ownsRow w3.heap.size 42 2 v' (rext [] x y).length (pc (rext [] x y)) ∧ (rext [] x y).length ≤ j + 1 ∧ rfold W B [] = rfold W (B.drop (j + 1)) (rext [] x y) ∧ w3.heap.size ≤ w5.heap.size) := Lib.hid ⟨by rw [HEX.out]; simpa [pc] using own5, by have := rext_len [] x y; omega, by simpa using HST.out, Nat.le_trans hszq K5.size⟩
          clear hor hg5 own5 K5 hi hz hsz1 hby hzs HST HEX KKq ownq hszq
          simp [go_sem] at hrun
          go_wp2
          go_region
          all_goals
            go_wp2
            go_roundw
            case rel => exact ⟨j + 1, rext [] x y, by go_num, by omega, by omega, HNX.out.1, HNX.out.2.1, HNX.out.2.2.1, K6.out, HNX.out.2.2.2⟩
            case measure => simp; omega
        · rw [List.concat_eq_append] at ho
          have hle : out.length = o.length + 1 := by rw [ho]; simp
          have HE1 : Hid (u = x - 1 → rext out x y = o ++ [(f, y - 1)]) := Lib.hid fun e => by rw [ho, rext]; simp [e]
          have HE2 : Hid (u ≠ x - 1 → rext out x y = out ++ [(x, y - 1)]) := Lib.hid fun e => by rw [ho, rext]; simp [e]
          have hpc : pc out = pc (o ++ [(f, u)]) := by rw [ho]
          clear ho
          rw [hle] at own4 hol ⊢
          obtain ⟨g, cg, hv, hg⟩ := ownsRow_pos own4 (by omega)
          injection hv with e1 e2 e3
          subst e1 e3
          have gc : w4.cell? ⟨g, o.length * 2 + 1, none⟩ = some (.int .i64 u) := by
            rw [own4.cellAt _ (by omega), hpc]
            exact (pc_get (l := o ++ [(f, u)]) (j := o.length) (x := (f, u)) (by simp)).2
          have gz : w4.frozen? ⟨g, o.length * 2 + 1, none⟩ = false := by
            rcases own4.2 with ⟨q, -⟩ | ⟨g', cap', cur, q, hg, hh, -⟩
            · cases q
            · injection q with q; injection q with q; injection q with q
              subst q
              simp [World.frozen?, hh]
          have hgne : b3 ≠ g := by omega
          by_cases hux : u = x - 1
          · have HEX := Lib.hid (HE1.out hux)
            clear HE1 HE2
            have HPC := Lib.hid hpc
            clear hpc
            have hq : ∀ m, Kept (fun _ => False) w3 (w4.drewN m) ∧ (w4.drewN m).ownsRow w3.heap.size 42 2 (Value.slice (some ⟨g, 0, none⟩) (o.length + 1) cs) (o.length + 1) (pc out) ∧ w3.heap.size ≤ (w4.drewN m).heap.size ∧ (w4.drewN m).cell? ⟨b3, off + j, none⟩ = some (.int .i64 x) ∧ (w4.drewN m).cell? ⟨b3, off + (j + 1), none⟩ = some (.int .i64 y) ∧ (w4.drewN m).cell? ⟨g, o.length * 2 + 1, none⟩ = some (.int .i64 u) ∧ (w4.drewN m).frozen? ⟨g, o.length * 2 + 1, none⟩ = false := fun m => ⟨KK.out.drewN m, own4, hsz4, c0, c1, gc, gz⟩
            have HQ := Lib.hid hq
            clear hq
            have hjn : j < n := by omega
            go_wp2
            go_quiet (fail)
            rename_i nq _
            have hq := HQ.out nq
            generalize w4.drewN nq = W4 at hq ⊢
            clear own4 c0 c1 HQ KK hsz4 gc gz
            obtain ⟨KKq, ownq, hszq, c0, c1, gc, gz⟩ := hq


            have own5 := own_set2 (show W4.ownsRow w3.heap.size 42 2 (.slice (some ⟨g, 0, none⟩) (o.length + 1) cs) (o.length + 1) (pc (o ++ [(f, u)])) by rw [← HPC.out]; exact ownq) (y - 1)
            have K6 := Lib.hid (KKq.setCell ⟨g, o.length * 2 + 1, none⟩ (.int .i64 (y - 1)) (fun h => by simp at h; omega))
            have HNX : Hid ((W4.setCell ⟨g, o.length * 2 + 1, none⟩ (.int .i64 (y - 1))).ownsRow w3.heap.size 42 2 (.slice (some ⟨g, 0, none⟩) (o.length + 1) cs) (rext out x y).length (pc (rext out x y)) ∧ (rext out x y).length ≤ j + 1 ∧ rfold W B [] = rfold W (B.drop (j + 1)) (rext out x y) ∧ w3.heap.size ≤ (W4.setCell ⟨g, o.length * 2 + 1, none⟩ (.int .i64 (y - 1))).heap.size) := Lib.hid ⟨by rw [HEX.out, List.length_append]; exact own5, by have := rext_len out x y; rw [HEX.out, List.length_append]; simp; omega, by simpa using HST.out, by simpa using hszq⟩
            clear own5 KKq ownq hszq HST HEX HPC
            go_wp2
            go_roundw
            case rel => exact ⟨j + 1, rext out x y, by go_num, by omega, by omega, HNX.out.1, HNX.out.2.1, HNX.out.2.2.1, K6.out, HNX.out.2.2.2⟩
            case measure => simp; omega
          · have HEX := Lib.hid (HE2.out hux)
            clear HE1 HE2
            have hq : ∀ m, Kept (fun _ => False) w3 (w4.drewN m) ∧ (w4.drewN m).ownsRow w3.heap.size 42 2 (Value.slice (some ⟨g, 0, none⟩) (o.length + 1) cs) (o.length + 1) (pc out) ∧ w3.heap.size ≤ (w4.drewN m).heap.size ∧ (w4.drewN m).cell? ⟨b3, off + j, none⟩ = some (.int .i64 x) ∧ (w4.drewN m).cell? ⟨b3, off + (j + 1), none⟩ = some (.int .i64 y) ∧ (w4.drewN m).cell? ⟨g, o.length * 2 + 1, none⟩ = some (.int .i64 u) ∧ (w4.drewN m).frozen? ⟨g, o.length * 2 + 1, none⟩ = false := fun m => ⟨KK.out.drewN m, own4, hsz4, c0, c1, gc, gz⟩
            have HQ := Lib.hid hq
            clear hq
            have hjn : j < n := by omega
            go_wp2
            go_quiet (fail)
            rename_i nq _
            have hq := HQ.out nq
            generalize w4.drewN nq = W4 at hq ⊢
            clear own4 c0 c1 HQ KK hsz4 gc gz
            obtain ⟨KKq, ownq, hszq, c0, c1, gc, gz⟩ := hq


            generalize Value.slice (some ⟨g, 0, none⟩) (o.length + 1) cs = V at ownq ⊢
            obtain ⟨i, z, hi, hz, hsz1, hby, hzs⟩ := el23.info
            obtain ⟨v', w5, hrun, own5, hg5, hor⟩ := run_append_new (P := Try.prog) ((W4.alloc (.cells #[.int .i64 x, .int .i64 (y - 1)] 42)).drew) w3.heap.size 23 23 42 i z 2 16 Try.underlying23 hi hz hsz1 hby hzs (by decide) V (o.length + 1) (pc out) (ownq.alloc _) ⟨W4.heap.size, 0, none⟩ 1 1 [.int .i64 x, .int .i64 (y - 1)] rfl
              (fun j u hj => by rw [Addr.add_mid, Nat.zero_add]; show (W4.alloc (.cells #[.int .i64 x, .int .i64 (y - 1)] 42)).cell? _ = _; rw [World.cell?_alloc_at _ _ _ _ rfl]; simpa using hj) (by intro u hu; simp at hu; rcases hu with rfl | rfl <;> rfl) (by unfold maxLen; omega) (by omega) (by simp; omega) (by decide)
            have K5 : Kept (fun b => Value.ownBlock V = some b) W4 w5 := ((Kept.refl _ W4).alloc _).drew.trans (Kept.of_grown hg5) (fun i _ q => q)
            have K6 := Lib.hid (KKq.trans K5 (fun i hi q => by have := (ownsRow_block ownq q).1; omega))
            have HNX : Hid (w5.ownsRow w3.heap.size 42 2 v' (rext out x y).length (pc (rext out x y)) ∧ (rext out x y).length ≤ j + 1 ∧ rfold W B [] = rfold W (B.drop (j + 1)) (rext out x y) ∧ w3.heap.size ≤ w5.heap.size) := Lib.hid ⟨by rw [HEX.out]; rw [List.length_append, pc_append, hle]; simpa [pc] using own5, by have := rext_len out x y; omega, by simpa using HST.out, Nat.le_trans hszq K5.size⟩
            clear hor hg5 own5 K5 hi hz hsz1 hby hzs HST HEX KKq ownq hszq
            simp [go_sem] at hrun
            go_wp2
            go_region
            all_goals
              go_wp2
              go_roundw
              case rel => exact ⟨j + 1, rext out x y, by go_num, by omega, by omega, HNX.out.1, HNX.out.2.1, HNX.out.2.2.1, K6.out, HNX.out.2.2.2⟩
              case measure => simp; omega
    · have HEND : Hid (out = Bk.rres (wantK k) a b) := Lib.hid (by rw [HRF.out, rfold_end W (by have := HNB.out; omega)])
      have HF : Hid (Prs wr (.slice ps out.length cs) (Bk.rres (wantK k) a b)) := Lib.hid (by have := Prs.of_own HO.out; rw [← HEND.out]; exact this)
      have HKF := Lib.hid (HK3.out.trans HK.out (fun _ _ h => h))
      have HNZ : Hid (Nz (.slice ps out.length cs)) := Lib.hid (Nz.own HO.out)
      have HOB : Hid (∀ c, (Value.slice ps out.length cs).ownBlock = some c → w.heap.size ≤ c) := Lib.hid fun c hc => by have := (ownsRow_block HO.out hc).1; have := HSZ.out; omega
      go_wp2
      go_ret
      exact ⟨_, rfl, HF.out, HOB.out, HNZ.out, HKF.out⟩
end Go.Proofs.Ytaedijppbghnaaa
