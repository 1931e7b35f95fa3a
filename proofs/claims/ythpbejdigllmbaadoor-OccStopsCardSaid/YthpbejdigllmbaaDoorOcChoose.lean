/- OcChoose: texts for the statements of this seat: contracts of functions, walks, plain laws. Conditions: none. -/
import Derived.Test.YthpbejdigllmbaaDoorOcPathsW
import Derived.Test.YthpbejdigllmbaaDoorOcLvPlain
import Derived.Test.YthpbejdigllmbaaDoorGeApp
namespace Go.Proofs.YthpbejdigllmbaaDoor
open Go.RowKit

def natI (l : List Nat) : List Int := l.map fun x : Nat => (x : Int)
def ChoosePost (l : List Nat) (w : World) (e : Ending) (w' : World) : Prop :=
  ∃ v6 v7, e = .returned (.tuple #[v6, v7, .bool true]) ∧ w'.ownsRow w.heap.size 3 1 v6 (cSteps l).length ((cSteps l).map (Value.int .i64)) ∧
    w'.ownsRow w.heap.size 3 1 v7 (cStates l).length ((cStates l).map (Value.int .i64)) ∧ Kept (fun _ => False) w w'
def stp1 (P : List (Int × Int)) : List Int := P.map (·.1)
def stp2 (P : List (Int × Int)) : List Int := 0 :: P.map (·.2)

set_option maxHeartbeats 2000000 in
set_option maxRecDepth 100000 in
theorem choose_c (v : Value) (l : List Nat) (w : World) (T : Tbl w) (hI : IntsK .u8 w v (natI l)) (hm : l.length ≤ 1000000) (hb8 : ∀ x ∈ l, x ≤ 255) : Calls Tryd.prog 32 #[v] w (ChoosePost l w) := by
  have hcell : ∀ k, k < l.length → ∃ x b off cap, l[k]? = some x ∧ v = .slice (some ⟨b, off, none⟩) l.length cap ∧ b < w.heap.size ∧ w.cell? ⟨b, off + k, none⟩ = some (.int .u8 (x : Nat)) := fun k hk => by
    have hl : (natI l).length = l.length := by simp [natI]
    obtain ⟨b, off, cap, hv, hb, hc⟩ := hI.pos (by omega)
    rw [hl] at hv
    refine ⟨l[k], b, off, cap, List.getElem?_eq_getElem hk, hv, hb, hc k _ ?_⟩
    unfold natI
    rw [List.getElem?_map, List.getElem?_eq_getElem hk]
    rfl
  obtain ⟨a, cap, hv⟩ := hI.len
  rw [show (natI l).length = l.length by simp [natI]] at hv
  subst hv
  obtain ⟨n, hn⟩ : ∃ n, l.length = n := ⟨_, rfl⟩
  have HN := Lib.hid hn
  rw [hn] at hm ⊢
  have HC := Lib.hid hcell
  have HT := Lib.hid T
  have HB8 := Lib.hid hb8
  clear hcell hI hn T hb8
  have O7 : (w.alloc (.cells #[.int .i64 0] 3)).ownsRow w.heap.size 3 1 (.slice (some ⟨w.heap.size, 0, none⟩) 1 1) 1 ((stp2 []).map (Value.int .i64)) := World.ownsRow_lit w #[.int .i64 0] 1 (Nat.le_refl _) (by decide) rfl
  go_enter Tryd.func32, Tryd.ntmps32
  go_wp2
  go_loopw [5, 6, 7, 19] (fun s v6 v7 i wr => ∃ k st g7 c7 : Nat, ∃ pre : List (Int × Int), k ≤ n ∧ i = .int .i64 k ∧ st < 7 ∧ s = .int .i64 st ∧ chs 0 l = pre ++ chs st (l.drop k) ∧ pre.length = k ∧
      wr.ownsRow w.heap.size 3 1 v6 k ((stp1 pre).map (Value.int .i64)) ∧ v7 = .slice (some ⟨g7, 0, none⟩) (k + 1) c7 ∧ wr.ownsRow w.heap.size 3 1 (.slice (some ⟨g7, 0, none⟩) (k + 1) c7) (k + 1) ((stp2 pre).map (Value.int .i64)) ∧ (v6.ownBlock ≠ some g7) ∧ Kept (fun _ => False) w wr)
    (fun _ _ _ i _ => n - (intOf i).toNat)
  case atStart => exact ⟨0, 0, _, _, [], by omega, rfl, by omega, rfl, by simp, rfl, World.ownsRow_nil _ _ _ _, rfl, O7, by simp [Value.ownBlock], (Kept.refl _ w).alloc _⟩
  case round =>
    clear O7
    obtain ⟨k, st, g7, c7, pre, hk, rfl, hst, rfl, hp, hpl, h6, rfl, h7, hd, K⟩ := hrel
    obtain ⟨wa, rfl⟩ : ∃ wa : World, wa = wr := ⟨_, rfl⟩
    have hla := K.size
    obtain ⟨a6, c6, hu6⟩ : ∃ a6 c6, u6 = .slice a6 k c6 := by
      rcases h6.2 with ⟨rfl, h0⟩ | ⟨g, cap, cur, rfl, -⟩
      · exact ⟨none, 0, by rw [h0]⟩
      · exact ⟨_, _, rfl⟩
    subst hu6
    have H6 := Lib.hid h6
    have H7 := Lib.hid h7
    have HD := Lib.hid hd
    have HP := Lib.hid (And.intro hp hpl)
    have HKK := Lib.hid K
    have hg7 := (ownsRow_block h7 (b := g7) rfl).2
    clear hp hpl h6 h7 hd
    by_cases hlt : k < n
    · obtain ⟨x, b, off, cap', hx, hv, hbl, hc⟩ := HC.out k (by have := HN.out; omega)
      rw [HN.out] at hv
      injection hv with hv1 hv2 hv3
      subst hv1 hv3
      clear hv2
      have hc := (K.cell (a := ⟨b, off + k, none⟩) hbl (fun h => h)).trans hc
      have HX := Lib.hid hx
      have hx8 := HB8.out x (List.mem_of_getElem? hx)
      have T1 := HT.out.same K
      have HST := Lib.hid (steps_yes st wa T1 (by simp [isSt]; omega))
      rw [Int.toNat_natCast] at HST
      clear hx K T1
      go_wp2_with fail
      refine HST.out.mono ?_
      rintro e w2 ⟨vs, rfl, hs, K2⟩
      obtain ⟨L, hL⟩ : ∃ L, (stepsUpTo st 6).length = L := ⟨_, rfl⟩
      rw [hL] at hs
      have hl2 := K2.size
      by_cases h0 : L = 0
      · subst h0
        have he : stepsUpTo st 6 = [] := List.eq_nil_of_length_eq_zero hL
        have HE := Lib.hid (chs_stop (s := st) HX.out he)
        obtain ⟨ax, cs, rfl⟩ : ∃ ax cs, vs = .slice ax 0 cs := by
          rcases hs.2 with ⟨rfl, h0⟩ | ⟨g, cap, cur, rfl, -⟩
          · exact ⟨none, 0, rfl⟩
          · exact ⟨_, _, rfl⟩
        have HK2 := Lib.hid K2
        clear hs hL he K2 hc HST
        go_wp2
        go_ret3
        have h1 : chs 0 l = pre := by rw [HP.out.1, HE.out, List.append_nil]
        have e1 : cSteps l = stp1 pre := by unfold cSteps; rw [h1]; rfl
        have e2 : cStates l = stp2 pre := by unfold cStates; rw [h1]; rfl
        have e3 : (stp1 pre).length = k := by simp [stp1]; exact HP.out.2
        have e4 : (stp2 pre).length = k + 1 := by simp [stp2]; exact HP.out.2
        refine ⟨_, _, rfl, ?_, ?_, HKK.out.trans HK2.out (fun _ _ h => h)⟩
        · rw [e1, e3]; exact ownsRow_kept H6.out HK2.out (fun _ _ _ h => h)
        · rw [e2, e4]; exact ownsRow_kept H7.out HK2.out (fun _ _ _ h => h)
      · have hne : ¬ stepsUpTo st 6 = [] := fun h => h0 (by rw [← hL, h]; rfl)
        obtain ⟨gs, cs, rfl, hgs⟩ := ownsRow_pos hs (by omega)
        have HE := Lib.hid (chs_on (s := st) HX.out hne)
        obtain ⟨p1, p2⟩ := pick_ok (x := x) hst hne
        obtain ⟨p3, p4⟩ := pick_st (x := x) hst hne
        have hcp : w2.cell? ⟨gs, x % L, none⟩ = some (.int .i64 (pick st x)) := by
          have hxl : x % L < L := Nat.mod_lt _ (by omega)
          rw [hs.cellAt _ (by omega), List.getElem?_map, List.getElem?_eq_getElem (by omega)]
          have hpe : pick st x = (stepsUpTo st 6)[x % L] := by
            simp only [pick, hL, List.getD_eq_getElem?_getD, List.getElem?_eq_getElem (show x % L < (stepsUpTo st 6).length by omega), Option.getD_some]
          rw [hpe]
          rfl
        have hx1 : (x : Int) % L < L := Int.emod_lt_of_pos _ (by omega)
        have hx2 : 0 ≤ (x : Int) % L := Int.emod_nonneg _ (by omega)
        have hgl := (ownsRow_block hs (b := gs) rfl).2
        have HS2 := Lib.hid (step_b st (pick st x) w2 (HT.out.same (HKK.out.trans K2 (fun _ _ h => h))) (by simp [isSt]; omega) p1 p2)
        have h62 := ownsRow_kept H6.out K2 (fun _ _ _ h => h)
        have h72 := ownsRow_kept H7.out K2 (fun _ _ _ h => h)
        have K02 := HKK.out.trans K2 (fun _ _ h => h)
        have hLp : 0 < L := by omega
        obtain ⟨st2, hs2⟩ := Int.eq_ofNat_of_zero_le p3
        have HF := Lib.hid (And.intro h62 (And.intro h72 K02))
        have HS3 := Lib.hid hs2
        have hst2 : st2 < 7 := by omega
        have hgw : w.heap.size ≤ w2.heap.size := K02.size
        rw [hs2] at HS2
        have hpd : Hid (pick st x = pick st x) := Lib.hid rfl
        generalize hpk : pick st x = t at hcp HS2 HE HS3
        clear hpd hpk hs hL hne p1 p2 p3 p4 h62 h72 K02 K2 hc HST hs2 h0
        go_wp2_with fail
        refine HS2.out.mono ?_
        rintro e w3 ⟨rfl, rfl⟩
        clear HS2 hcp
        go_wp2_with (at_builtin; refine wpList_app2 el27 rfl (.tmp 50) (.tmp 52) rfl w.heap.size (.slice a6 k c6) k ((stp1 pre).map (Value.int .i64)) rfl HF.out.1 rfl rfl ?c1 ?c2 ?c3 ?c4 ?_)
        case c1 => intro u hu; simp at hu; subst hu; rfl
        case c2 => unfold maxLen; omega
        case c3 => omega
        case c4 => omega
        intro g6 c6' w4 h64 K4 hor
        have hne6 : g6 ≠ g7 := by
          rcases hor with h | h
          · intro e; subst e; exact HD.out h
          · omega
        have h74 := ownsRow_kept HF.out.2.1 K4 (fun b hb hb2 h => by
          simp only [Value.ownBlock, Option.some.injEq] at hb2
          subst hb2
          exact HD.out h)
        have K04 := HF.out.2.2.trans K4 (fun i hi h => by have := (ownsRow_block HF.out.1 h).1; omega)
        have HG := Lib.hid (And.intro h64 (And.intro h74 K04))
        have hl4 := K4.size
        have hg6 := (ownsRow_block h64 (b := g6) rfl).2
        clear h64 h74 K04 K4 hor HF H6 H7
        go_wp2_with (at_builtin; refine wpList_app2 el27 rfl (.tmp 54) (.tmp 56) rfl w.heap.size (.slice (some ⟨g7, 0, none⟩) (k + 1) c7) (k + 1) ((stp2 pre).map (Value.int .i64)) rfl HG.out.2.1 rfl rfl ?d1 ?d2 ?d3 ?d4 ?_)
        case d1 => intro u hu; simp at hu; subst hu; rfl
        case d2 => unfold maxLen; omega
        case d3 => omega
        case d4 => omega
        intro g7' c7' w5 h75 K5 hor
        have hne7 : g6 ≠ g7' := by
          rcases hor with h | h
          · simp only [Value.ownBlock, Option.some.injEq] at h; omega
          · omega
        have h65 := ownsRow_kept HG.out.1 K5 (fun b hb hb2 h => by
          simp only [Value.ownBlock, Option.some.injEq] at hb2 h
          omega)
        have hg7w : w.heap.size ≤ g7 := (ownsRow_block HG.out.2.1 (b := g7) rfl).1
        have K05 := HG.out.2.2.trans K5 (fun i hi h => by simp only [Value.ownBlock, Option.some.injEq] at h; omega)
        have HY := Lib.hid (And.intro h65 (And.intro h75 K05))
        clear h65 h75 K05 K5 hor HG
        go_wp2
        go_roundw
        case rel => exact ⟨k + 1, st2, g7', c7', pre ++ [(t, (st2 : Int))], by omega, by go_num, hst2, rfl,
          by rw [HP.out.1, HE.out, HS3.out, Int.toNat_natCast]; simp, by simp [HP.out.2], by simpa [stp1] using HY.out.1, rfl, by simpa [stp2] using HY.out.2.1, by simp only [Value.ownBlock, ne_eq, Option.some.injEq]; exact hne7, HY.out.2.2⟩
        case measure => simp [intOf]; omega
    · obtain rfl : n = k := by omega
      clear K
      go_wp2
      go_ret3
      have h1 : chs 0 l = pre := by rw [HP.out.1, chs_end (by have := HN.out; omega), List.append_nil]
      have e1 : cSteps l = stp1 pre := by unfold cSteps; rw [h1]; rfl
      have e2 : cStates l = stp2 pre := by unfold cStates; rw [h1]; rfl
      have e3 : (stp1 pre).length = n := by simp [stp1]; exact HP.out.2
      have e4 : (stp2 pre).length = n + 1 := by simp [stp2]; exact HP.out.2
      refine ⟨_, _, rfl, ?_, ?_, HKK.out⟩
      · rw [e1, e3]; exact H6.out
      · rw [e2, e4]; exact H7.out

theorem take_count_any (xs : List Int) (k : Nat) (x t : Int) (h : xs[k]? = some x) : (xs.take (k + 1)).count t = (xs.take k).count t + if x = t then 1 else 0 := by
  obtain ⟨hk, rfl⟩ := List.getElem?_eq_some_iff.1 h
  rw [List.take_succ_eq_append_getElem hk, List.count_append, List.count_singleton]
  by_cases e : xs[k] = t <;> simp [e]
set_option maxHeartbeats 1000000 in
theorem count_c (v : Value) (xs : List Int) (t : Int) (r : Nat) (w : World) (hI : Ints w v xs) (hm : xs.length ≤ 4611686018427387904) (hr : xs.count t = r) :
    Calls Tryd.prog 33 #[v, .int .i64 t] w fun e w' => e = .returned (.int .i64 r) ∧ w = w' := by
  have hcell : ∀ k, k < xs.length → ∃ x b off cap, xs[k]? = some x ∧ v = .slice (some ⟨b, off, none⟩) xs.length cap ∧ w.cell? ⟨b, off + k, none⟩ = some (.int .i64 x) := fun k hk => by
    obtain ⟨b, off, cap, hv, hb, hc⟩ := hI.pos (by omega)
    exact ⟨_, b, off, cap, List.getElem?_eq_getElem hk, hv, hc k _ (List.getElem?_eq_getElem hk)⟩
  obtain ⟨a, cap, rfl⟩ := hI.len
  obtain ⟨n, hn⟩ : ∃ n, xs.length = n := ⟨_, rfl⟩
  have HN := Lib.hid hn
  rw [hn] at hm ⊢
  have HCE := Lib.hid hcell
  have HR := Lib.hid hr
  clear hcell hI hn hr
  go_enter Tryd.func33, Tryd.ntmps33
  go_wp2
  go_loop [5, 10] (fun c i => ∃ k : Nat, k ≤ n ∧ i = .int .i64 k ∧ ∃ q : Nat, c = .int .i64 q ∧ q = (xs.take k).count t ∧ q ≤ k) (fun _ i => n - (intOf i).toNat)
  case atStart => exact ⟨0, by omega, rfl, 0, rfl, by simp, by omega⟩
  case round =>
    obtain ⟨k, hk, rfl, q, rfl, hq, hqk⟩ := hrel
    have HQ := Lib.hid hq
    clear hq
    by_cases hlt : k < n
    · obtain ⟨x, b, off, cap', hx, hv, hc⟩ := HCE.out k (by have := HN.out; omega)
      have hn2 := HN.out
      rw [hn2] at hv
      injection hv with hv1 hv2 hv3
      subst hv1 hv3
      have HX := Lib.hid (take_count_any xs k x t hx)
      have hkn : k < n := by omega
      clear hv2 hx hn2
      by_cases h3 : x = t
      · subst h3
        go_wp2
        go_round
        case rel => exact ⟨k + 1, by omega, by go_num, q + 1, by go_num, by rw [HX.out, HQ.out]; simp, by omega⟩
        case measure => simp [intOf]; omega
      · have hb : (x == t) = false := by simpa using h3
        have H3 := Lib.hid h3
        clear h3
        go_wp2
        go_round
        case rel => exact ⟨k + 1, by omega, by go_num, q, rfl, by rw [HX.out, HQ.out, if_neg H3.out]; rfl, by omega⟩
        case measure => simp [intOf]; omega
    · obtain rfl : n = k := by omega
      go_wp2
      go_ret
      refine ⟨?_, rfl⟩
      have : q = r := by rw [HQ.out, ← HR.out, List.take_of_length_le (by have := HN.out; omega)]
      rw [this]; rfl
end Go.Proofs.YthpbejdigllmbaaDoor
