/- OcCountsW: texts for the statements of this seat: contracts of functions, walks, plain laws. Conditions: none. -/
import Derived.Test.YthpbejdigllmbaaDoorOcWorks
import Derived.Test.YthpbejdigllmbaaDoorOcCtPlain
import Derived.Laws.EntriesVeiled
import Derived.Test.YthpbejdigllmbaaDoorGeMake
namespace Go.Proofs.YthpbejdigllmbaaDoor
open Go.RowKit

/-- What the closure reads and writes. -/
structure TryAt (w : World) (k kb pb wb tb lb : Nat) (L : List Int) (want : Int) : Prop where
  bk : RowAt w kb [.int .i64 k]
  bp : RowAt w pb [.slice (some ⟨lb, 0, none⟩) k k]
  bw : NumsAt w wb [want]
  bt : RowAt w tb [.func (.func 15) #[] #[.pointer (some ⟨kb, 0, none⟩), .pointer (some ⟨pb, 0, none⟩), .pointer (some ⟨wb, 0, none⟩), .pointer (some ⟨tb, 0, none⟩)]]
  bl : NumsAt w lb L
  tab : Tbl w
theorem TryAt.kept {S : Nat → Prop} {w w' : World} {k kb pb wb tb lb : Nat} {L : List Int} {want : Int} (h : TryAt w k kb pb wb tb lb L want) (K : Kept S w w') (hS : ∀ b, S b → False) : TryAt w' k kb pb wb tb lb L want :=
  ⟨h.bk.kept K (fun h => hS _ h), h.bp.kept K (fun h => hS _ h), h.bw.kept K (fun h => hS _ h), h.bt.kept K (fun h => hS _ h), h.bl.kept K (fun h => hS _ h), h.tab.kept K (fun h => hS _ h) (fun h => hS _ h)⟩
structure TryNe (B kb pb wb tb lb : Nat) : Prop where
  b : 1 < B
  k : B ≤ kb
  p : B ≤ pb
  w : B ≤ wb
  t : B ≤ tb
  l : B ≤ lb
  kw : kb ≠ wb
  kl : kb ≠ lb
  pw : pb ≠ wb
  pl : pb ≠ lb
  tw : tb ≠ wb
  tl : tb ≠ lb
  wl : wb ≠ lb
theorem TryAt.setL {w : World} {B k kb pb wb tb lb : Nat} {L : List Int} {want : Int} (N : TryNe B kb pb wb tb lb) (h : TryAt w k kb pb wb tb lb L want) {i : Nat} (hi : i < L.length) (x : Int) :
    TryAt (w.setCell ⟨lb, i, none⟩ (.int .i64 x)) k kb pb wb tb lb (L.set i x) want := by
  have K : Kept (fun b => b = lb) w (w.setCell ⟨lb, i, none⟩ (.int .i64 x)) := (Kept.refl _ w).setCell _ _ (fun _ => rfl)
  have n1 := N.b
  have n2 := N.l
  exact ⟨h.bk.kept K N.kl, h.bp.kept K N.pl, h.bw.kept K N.wl, h.bt.kept K N.tl, NumsAt.set h.bl hi x, h.tab.kept K (fun e => by omega) (fun e => by omega)⟩
theorem TryAt.setW {w : World} {B k kb pb wb tb lb : Nat} {L : List Int} {want : Int} (N : TryNe B kb pb wb tb lb) (h : TryAt w k kb pb wb tb lb L want) (x : Int) :
    TryAt (w.setCell ⟨wb, 0, none⟩ (.int .i64 x)) k kb pb wb tb lb L x := by
  have K : Kept (fun b => b = wb) w (w.setCell ⟨wb, 0, none⟩ (.int .i64 x)) := (Kept.refl _ w).setCell _ _ (fun _ => rfl)
  have n1 := N.b
  have n2 := N.w
  exact ⟨h.bk.kept K N.kw, h.bp.kept K N.pw, NumsAt.set h.bw (by simp) x, h.bt.kept K N.tw, h.bl.kept K (fun e => N.wl e.symm), h.tab.kept K (fun e => by omega) (fun e => by omega)⟩

def TryPost (k kb pb wb tb lb : Nat) (pre : List Int) (want : Int) (w : World) (e : Ending) (w' : World) : Prop :=
  e = .returned (.bool true) ∧ ∃ L, L.length = k ∧ L.take pre.length = pre ∧ TryAt w' k kb pb wb tb lb L want ∧ Kept (fun b => b = lb ∨ b = wb) w w'

set_option maxHeartbeats 2000000 in
theorem try_c (B k kb pb wb tb lb : Nat) (hk4 : k ≤ 4) (N : TryNe B kb pb wb tb lb) : ∀ (d : Nat) (pre L : List Int) (want : Nat) (w : World), pre.length + d = k → L.length = k → L.take pre.length = pre → allSp pre = true → want + 6 ^ d ≤ 100000 → TryAt w k kb pb wb tb lb L want →
    Calls Tryd.prog 15 #[.int .i64 pre.length, .pointer (some ⟨kb, 0, none⟩), .pointer (some ⟨pb, 0, none⟩), .pointer (some ⟨wb, 0, none⟩), .pointer (some ⟨tb, 0, none⟩)] w (TryPost k kb pb wb tb lb pre (want + cntF d pre : Nat) w) := by
  intro d
  induction d with
  | zero =>
    intro pre L want w hd hL hp hsp hw A
    have hLp : L = pre := by rw [← hp, List.take_of_length_le (by omega)]
    subst hLp
    obtain ⟨n, hn⟩ : ∃ n, L.length = n := ⟨_, rfl⟩
    obtain rfl : k = n := by omega
    have c1 := A.bk.get (j := 0) rfl
    have c2 := A.bp.get (j := 0) rfl
    have c3 : w.cell? ⟨wb, 0, none⟩ = some (.int .i64 want) := NumsAt.get A.bw (j := 0) (by simp)
    have I : Ints w (.slice (some ⟨lb, 0, none⟩) k k) L := .inr ⟨lb, 0, k, by rw [hL], A.bl.lt, fun j x hx => by rw [Nat.zero_add]; exact RowAt.get A.bl (by rw [List.getElem?_map, hx]; rfl)⟩
    have P := Lib.hid (path_c _ L (by omega) w A.tab I)
    obtain ⟨m, hm⟩ : ∃ m, (fol 0 L).length = m := ⟨_, rfl⟩
    have hpf : pathF L = (lastOf (fol 0 L), (m : Int), 0) := by unfold pathF; rw [hsp, hm]; rfl
    have hml : m ≤ k := by have := fol_length 0 L; omega
    have HPF := Lib.hid hpf
    have HA := Lib.hid A
    have HL := Lib.hid hL
    rw [hn]
    generalize lastOf (fol 0 L) = la at HPF
    by_cases hmk : m = k
    · have hcf : cntF 0 L = 1 := by unfold cntF; rw [if_pos (by omega)]
      rw [hcf]
      subst hmk
      have hwb : (want : Int) ≤ 100000 := by simp at hw; omega
      clear hpf hcf hm hn hL hp hsp hw hd A I
      go_enter Tryd.func15, Tryd.ntmps15
      go_wp2_with fail
      refine P.out.mono ?_
      rintro e w1 ⟨rfl, K1⟩
      rw [HPF.out]
      have A1 := HA.out.kept K1 (fun _ h => h)
      have d1 := A1.bk.get (j := 0) rfl
      have d3 : w1.cell? ⟨wb, 0, none⟩ = some (.int .i64 want) := NumsAt.get A1.bw (j := 0) (by simp)
      have d4 := A1.bw.fz 0
      have A2 := A1.setW N ((want : Int) + 1)
      have K2 : Kept (fun b => b = lb ∨ b = wb) w (w1.setCell ⟨wb, 0, none⟩ (.int .i64 ((want : Int) + 1))) := (K1.mono (fun _ _ h => h.elim)).setCell _ _ (fun _ => .inr rfl)
      have HX := Lib.hid (And.intro A2 K2)
      clear A1 A2 K1 K2 c1 c2 c3
      go_wp2
      go_ret
      exact ⟨rfl, L, HL.out, by rw [List.take_length], by simpa using HX.out.1, HX.out.2⟩
    · have hcf : cntF 0 L = 0 := by unfold cntF; rw [if_neg (by omega)]
      rw [hcf]
      have hq : ((m : Int) == (k : Int)) = false := by simp; omega
      clear hpf hcf hm hn hL hp hsp hw hd A I hmk
      go_enter Tryd.func15, Tryd.ntmps15
      go_wp2_with fail
      refine P.out.mono ?_
      rintro e w1 ⟨rfl, K1⟩
      rw [HPF.out]
      have A1 := HA.out.kept K1 (fun _ h => h)
      have d1 := A1.bk.get (j := 0) rfl
      have HX := Lib.hid (And.intro A1 K1)
      clear A1 K1 c1 c2 c3
      go_wp2
      go_ret
      exact ⟨rfl, L, HL.out, by rw [List.take_length], by simpa using HX.out.1, HX.out.2.mono (fun _ _ h => h.elim)⟩
  | succ d ih =>
    intro pre L want w hd hL hp hsp hw A
    obtain ⟨n, hn⟩ : ∃ n, pre.length = n := ⟨_, rfl⟩
    have c1 := A.bk.get (j := 0) rfl
    have hnk : n < k := by omega
    have hq : ((n : Int) == (k : Int)) = false := by simp; omega
    have IH := Lib.hid ih
    have HN := Lib.hid hn
    have HSP := Lib.hid hsp
    have HW := Lib.hid hw
    have HD := Lib.hid hd
    have HA := Lib.hid (And.intro hL (And.intro hp A))
    have hcs : Hid (∀ j, cntS d pre j ≤ j * 6 ^ d) := Lib.hid (cntS_le d pre)
    rw [hn]
    clear ih hn hsp hw hd hL hp A
    go_enter Tryd.func15, Tryd.ntmps15
    go_wp2
    clear c1 hq
    go_loopw [10] (fun i wr => ∃ s : Nat, 1 ≤ s ∧ s ≤ 7 ∧ i = .int .i64 s ∧ ∃ L, L.length = k ∧ L.take pre.length = pre ∧ TryAt wr k kb pb wb tb lb L (want + cntS d pre (s - 1) : Nat) ∧ Kept (fun b => b = lb ∨ b = wb) w wr)
      (fun i _ => 7 - (intOf i).toNat)
    case atStart => exact ⟨1, by omega, by omega, rfl, L, HA.out.1, HA.out.2.1, HA.out.2.2, Kept.refl _ _⟩
    case round =>
      clear HA
      obtain ⟨s, hs1, hs7, rfl, L, hL, hp, A, K⟩ := hrel
      obtain ⟨wa, rfl⟩ : ∃ wa : World, wa = wr := ⟨_, rfl⟩
      by_cases hs : s < 7
      · obtain ⟨j, hj⟩ : ∃ j, s - 1 = j := ⟨_, rfl⟩
        have hj2 : s + 1 - 1 = j + 1 := by omega
        rw [hj] at A
        have c2 := A.bp.get (j := 0) rfl
        have c3 := A.bt.get (j := 0) rfl
        have c4 := NumsAt.get A.bl (j := n) (by omega)
        have c5 := A.bl.fz n
        have A2 := A.setL N (i := n) (by omega) (s : Int)
        have c6 := A2.bt.get (j := 0) rfl
        have hL2 : (L.set n (s : Int)).length = k := by rw [List.length_set]; exact hL
        have hpn : (pre ++ [(s : Int)]).length = n + 1 := by rw [List.length_append, HN.out]; rfl
        have ht2 : (L.set n (s : Int)).take (pre ++ [(s : Int)]).length = pre ++ [(s : Int)] := by
          rw [hpn, List.take_succ_eq_append_getElem (by rw [hL2]; omega), List.take_set_of_le (by omega)]
          rw [HN.out] at hp
          rw [hp]
          simp
        have hsp2 : allSp (pre ++ [(s : Int)]) = true := by
          have h := HSP.out
          unfold allSp at h ⊢
          rw [List.all_append, h]
          simp [isSp]; omega
        have hb := hcs.out j
        have hbw := HW.out
        have h6 : 6 ^ (d + 1) = 6 ^ d * 6 := rfl
        have hj5 : j ≤ 5 := by omega
        have hb2 : j * 6 ^ d ≤ 5 * 6 ^ d := Nat.mul_le_mul_right _ hj5
        have C := Lib.hid (IH.out (pre ++ [(s : Int)]) (L.set n (s : Int)) (want + cntS d pre j) _ (by rw [hpn]; have := HD.out; have := HN.out; omega) hL2 ht2 hsp2 (by omega) A2)
        rw [hpn] at C
        have hsj : (s : Int) = (j : Int) + 1 := by omega
        have HS : Hid (want + cntS d pre (s + 1 - 1) = want + cntS d pre j + cntF d (pre ++ [(s : Int)])) := Lib.hid (by rw [hj2, cntS, hsj]; omega)
        have K2 : Kept (fun b => b = lb ∨ b = wb) w (wa.setCell ⟨lb, n, none⟩ (.int .i64 s)) := K.setCell _ _ (fun _ => .inl rfl)
        have HK := Lib.hid K2
        have HP := Lib.hid (And.intro hL hp)
        have hsb : decide ((s : Int) ≤ 6) = true := by simp; omega
        clear hj hj2 A A2 hL hp hL2 hpn ht2 hsp2 hb hbw h6 hb2 hsj K K2
        go_wp2_with fail
        refine C.out.mono ?_
        rintro e w2 ⟨rfl, L2, hl2, ht2, A2, K2⟩
        have hpn : (pre ++ [(s : Int)]).length = n + 1 := by rw [List.length_append, HN.out]; rfl
        have ht3 : L2.take pre.length = pre := by
          have := congrArg (List.take pre.length) ht2
          rw [List.take_take, List.take_left] at this
          rwa [Nat.min_eq_left (by rw [hpn, HN.out]; omega)] at this
        have HX := Lib.hid (And.intro hl2 (And.intro ht3 (And.intro A2 (HK.out.trans K2 (fun _ _ h => h)))))
        clear hl2 ht2 ht3 A2 K2 hpn c2 c3 c4 c5 c6
        go_wp2
        go_roundw
        case rel => exact ⟨s + 1, by omega, by omega, by go_num, L2, HX.out.1, HX.out.2.1, by rw [HS.out]; exact HX.out.2.2.1, HX.out.2.2.2⟩
        case measure => simp [intOf]; omega
      · obtain rfl : s = 7 := by omega
        have HX := Lib.hid (And.intro hL (And.intro hp (And.intro A K)))
        clear hL hp A K
        go_wp2
        go_ret
        refine ⟨rfl, L, HX.out.1, HX.out.2.1, ?_, HX.out.2.2.2⟩
        rw [← cntS_all]
        exact HX.out.2.2.1
end Go.Proofs.YthpbejdigllmbaaDoor
namespace Go.Proofs.YthpbejdigllmbaaDoor
open Go.RowKit
set_option maxHeartbeats 2000000 in
set_option maxRecDepth 100000 in
theorem counts_c (n lg : Int) (n0 : 0 ≤ n) (n1 : n ≤ 255) (l0 : 0 ≤ lg) (l1 : lg ≤ 255) (w : World) (T : Tbl w) : Calls Tryd.prog 4 #[.int .u8 n, .int .u8 lg] w fun e w' => e = .returned (.bool true) ∧ Kept (fun _ => False) w w' := by
  have HT := Lib.hid T
  clear T
  obtain ⟨k, hk⟩ := Int.eq_ofNat_of_zero_le (show 0 ≤ n % 5 by omega)
  have hk5 : k < 5 := by omega
  have hmk := fun (w : World) => make_p (P := Tryd.prog) Tryd.underlying27 Tryd.info3q rfl (by omega) k (by omega) w
  obtain ⟨W0, hW0⟩ : ∃ W0, (((((w.alloc (.cells #[.int .i64 k] 3)).alloc (.cells (Array.replicate k (.int .i64 0)) 3)).alloc (.cells #[.slice (some ⟨w.heap.size + 1, 0, none⟩) k k] 27)).alloc (.cells #[.int .i64 0] 2)).alloc (.cells #[.func (.func 15) #[] #[.pointer (some ⟨w.heap.size, 0, none⟩), .pointer (some ⟨w.heap.size + 1 + 1, 0, none⟩), .pointer (some ⟨w.heap.size + 1 + 1 + 1, 0, none⟩), .pointer (some ⟨w.heap.size + 1 + 1 + 1 + 1, 0, none⟩)]] 26)) = W0 := ⟨_, rfl⟩
  have HW0 := Lib.hid hW0
  have hlt := HT.out.lt
  have K0 : Kept (fun _ => False) w W0 := by rw [← hW0]; exact (((((Kept.refl _ w).alloc _).alloc _).alloc _).alloc _).alloc _
  have TA : TryAt W0 k w.heap.size (w.heap.size + 1 + 1) (w.heap.size + 1 + 1 + 1) (w.heap.size + 1 + 1 + 1 + 1) (w.heap.size + 1) (List.replicate k 0) 0 := by
    have s1 : ∀ (w : World) (o : Obj), (w.alloc o).heap.size = w.heap.size + 1 := fun w o => by simp
    have r1 := RowAt.new w 3 #[.int .i64 k]
    have r2 := RowAt.new (w.alloc (.cells #[.int .i64 k] 3)) 3 (Array.replicate k (.int .i64 0))
    have r3 := RowAt.new ((w.alloc (.cells #[.int .i64 k] 3)).alloc (.cells (Array.replicate k (.int .i64 0)) 3)) 27 #[.slice (some ⟨w.heap.size + 1, 0, none⟩) k k]
    have r4 := RowAt.new (((w.alloc (.cells #[.int .i64 k] 3)).alloc (.cells (Array.replicate k (.int .i64 0)) 3)).alloc (.cells #[.slice (some ⟨w.heap.size + 1, 0, none⟩) k k] 27)) 2 #[.int .i64 0]
    have r5 := RowAt.new ((((w.alloc (.cells #[.int .i64 k] 3)).alloc (.cells (Array.replicate k (.int .i64 0)) 3)).alloc (.cells #[.slice (some ⟨w.heap.size + 1, 0, none⟩) k k] 27)).alloc (.cells #[.int .i64 0] 2)) 26 #[.func (.func 15) #[] #[.pointer (some ⟨w.heap.size, 0, none⟩), .pointer (some ⟨w.heap.size + 1 + 1, 0, none⟩), .pointer (some ⟨w.heap.size + 1 + 1 + 1, 0, none⟩), .pointer (some ⟨w.heap.size + 1 + 1 + 1 + 1, 0, none⟩)]]
    simp only [s1] at r2 r3 r4 r5
    have al : ∀ {b : Nat} {vs : List Value} {w : World} (h : RowAt w b vs) (o : Obj), RowAt (w.alloc o) b vs := fun h o => h.same ((Kept.refl _ _).alloc o)
    rw [← hW0]
    refine ⟨al (al (al (al r1 _) _) _) _, al (al r3 _) _, al r4 _, r5, ?_, ?_⟩
    · have := al (al (al r2 (.cells #[.slice (some ⟨w.heap.size + 1, 0, none⟩) k k] 27)) (.cells #[.int .i64 0] 2)) (.cells #[.func (.func 15) #[] #[.pointer (some ⟨w.heap.size, 0, none⟩), .pointer (some ⟨w.heap.size + 1 + 1, 0, none⟩), .pointer (some ⟨w.heap.size + 1 + 1 + 1, 0, none⟩), .pointer (some ⟨w.heap.size + 1 + 1 + 1 + 1, 0, none⟩)]] 26)
      simpa [NumsAt] using this
    · exact HT.out.same (by rw [hW0]; exact K0)
  have NE : TryNe w.heap.size w.heap.size (w.heap.size + 1 + 1) (w.heap.size + 1 + 1 + 1) (w.heap.size + 1 + 1 + 1 + 1) (w.heap.size + 1) := by constructor <;> omega
  have h6 : 6 ^ k ≤ 1296 := by
    have : ∀ k : Fin 5, 6 ^ k.1 ≤ 1296 := by decide
    exact this ⟨k, hk5⟩
  have hcw := cnt_words ⟨k, hk5⟩
  simp only at hcw
  have hcl := cntF_le k []
  obtain ⟨c, hc⟩ : ∃ c, cntF k [] = c := ⟨_, rfl⟩
  have C0 : Hid (Calls Tryd.prog 15 #[.int .i64 0, .pointer (some ⟨w.heap.size, 0, none⟩), .pointer (some ⟨w.heap.size + 1 + 1, 0, none⟩), .pointer (some ⟨w.heap.size + 1 + 1 + 1, 0, none⟩), .pointer (some ⟨w.heap.size + 1 + 1 + 1 + 1, 0, none⟩)] W0 (TryPost k w.heap.size (w.heap.size + 1 + 1) (w.heap.size + 1 + 1 + 1) (w.heap.size + 1 + 1 + 1 + 1) (w.heap.size + 1) [] (c : Nat) W0)) :=
    Lib.hid (by
      have := try_c w.heap.size k _ _ _ _ _ (by omega) NE k [] (List.replicate k 0) 0 W0 (by simp) (by simp) (by simp) rfl (by omega) TA
      rw [hc, Nat.zero_add] at this
      exact this)
  rw [hc] at hcw hcl
  have HCW := Lib.hid hcw
  have HK0 := Lib.hid K0
  obtain ⟨m, hm⟩ := Int.eq_ofNat_of_zero_le (show 0 ≤ lg % 61 by omega)
  have hm61 : m < 61 := by omega
  have HM := Lib.hid hm
  have hkb : Hid (k < 5) := Lib.hid hk5
  clear hcw hW0 TA NE K0 hc hm h6 hcl
  go_enter Tryd.func4, Tryd.ntmps4
  go_wp2_with fail
  rw [HW0.out]
  refine C0.out.mono ?_
  rintro e w1 ⟨rfl, L, -, -, A1, K1⟩
  have d1 := A1.bk.get (j := 0) rfl
  have d2 : w1.cell? ⟨w.heap.size + 1 + 1 + 1, 0, none⟩ = some (.int .i64 c) := NumsAt.get A1.bw (j := 0) (by simp)
  have K01 := HK0.out.trans K1 (fun i hi h => by omega)
  have B1 := Lib.hid (words_c k c 0 w1 (HT.out.same K01) (by unfold wordsF; rw [if_pos (by have := hkb.out; omega), Int.toNat_natCast, ← HCW.out]))
  have HK1 := Lib.hid K01
  have HA1 := Lib.hid A1
  clear hmk A1 K1 K01 C0 HW0
  go_wp2_with fail
  refine B1.out.mono ?_
  rintro e w2 ⟨rfl, K2⟩
  have A2 := HA1.out.kept K2 (fun _ h => h)
  have d3 : w2.cell? ⟨w.heap.size + 1 + 1 + 1, 0, none⟩ = some (.int .i64 c) := NumsAt.get A2.bw (j := 0) (by simp)
  have K02 := HK1.out.trans K2 (fun _ _ h => h)
  obtain ⟨q, hq⟩ : ∃ q, (wv m).getD 0 0 = q := ⟨_, rfl⟩
  have B2 := Lib.hid (words_c m q 0 w2 (HT.out.same K02) (by unfold wordsF; rw [if_pos (by omega), Int.toNat_natCast, hq]))
  have HK2 := Lib.hid K02
  have HQ := Lib.hid hq
  clear A2 K2 K02 B1 hq d1 d2
  go_wp2_with fail
  rw [HM.out]
  refine B2.out.mono ?_
  rintro e w3 ⟨rfl, K3⟩
  have K03 := HK2.out.trans K3 (fun _ _ h => h)
  have B3 := Lib.hid (words_c (61 + lg) 0 3 w3 (HT.out.same K03) (by unfold wordsF; rw [if_neg (by omega)]))
  have HK3 := Lib.hid K03
  clear K3 K03 B2 d3
  go_wp2_with fail
  refine B3.out.mono ?_
  rintro e w4 ⟨rfl, K4⟩
  have K04 := HK3.out.trans K4 (fun _ _ h => h)
  have B4 := Lib.hid (words_c (-1 - lg) 0 3 w4 (HT.out.same K04) (by unfold wordsF; rw [if_neg (by omega)]))
  have HK4 := Lib.hid K04
  clear K4 K04 B3
  go_wp2_with fail
  refine B4.out.mono ?_
  rintro e w5 ⟨rfl, K5⟩
  have K05 := HK4.out.trans K5 (fun _ _ h => h)
  have B5 := Lib.hid (works_c w5 (HT.out.same K05))
  have HK5 := Lib.hid K05
  clear K5 K05 B4
  have hcs : (m = 0 ∧ q = 1) ∨ (m = 1 ∧ q = 3) ∨ (2 ≤ m ∧ q = 4) := by
    have h := HQ.out
    match m, h with
    | 0, h => left; exact ⟨rfl, h.symm⟩
    | 1, h => right; left; exact ⟨rfl, h.symm⟩
    | m + 2, h => right; right; exact ⟨by omega, h.symm⟩
  rcases hcs with ⟨rfl, rfl⟩ | ⟨rfl, rfl⟩ | ⟨hm2, rfl⟩
  · go_wp2_with fail
    refine B5.out.mono ?_
    rintro e w6 ⟨rfl, K6⟩
    go_wp2
    go_ret
    exact ⟨rfl, HK5.out.trans K6 (fun _ _ h => h)⟩
  · go_wp2_with fail
    refine B5.out.mono ?_
    rintro e w6 ⟨rfl, K6⟩
    go_wp2
    go_ret
    exact ⟨rfl, HK5.out.trans K6 (fun _ _ h => h)⟩
  · have hmb : ¬ (m : Int) < 2 := by omega
    go_wp2_with fail
    refine B5.out.mono ?_
    rintro e w6 ⟨rfl, K6⟩
    go_wp2
    go_ret
    exact ⟨rfl, HK5.out.trans K6 (fun _ _ h => h)⟩
end Go.Proofs.YthpbejdigllmbaaDoor
