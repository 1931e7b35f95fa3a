/- Contracts of slices.Equal, Index, Contains, Clone at []int. -/
import Derived.Test.YthpbejdigllmbaaDoorProg
import Derived.WalkKit
import Derived.WalkSpells
import Derived.WalkLawsBesides
import Derived.Lib.Hide
import Derived.Deep.QuietTactic
import Derived.BigQuiet
import Derived.Test.YthpbejdigllmbaaDoorGeInts
namespace Go.Proofs.YthpbejdigllmbaaDoor
open Go.RowKit

set_option maxHeartbeats 400000 in
theorem equal_c (v1 v2 : Value) (xs ys : List Int) (b : Bool) (w : World) (h1 : Ints w v1 xs) (h2 : Ints w v2 ys) (hm : xs.length ≤ 4611686018427387904) (hb : decide (xs = ys) = b) :
    Calls Tryd.prog 24 #[v1, v2] w fun e w' => e = .returned (.bool b) ∧ ∃ n, w' = w.drewN n := by
  subst hb
  by_cases hl : xs.length = ys.length
  · by_cases h0 : xs.length = 0
    · obtain ⟨a1, c1, rfl⟩ := h1.len
      obtain ⟨a2, c2, rfl⟩ := h2.len
      obtain rfl : xs = [] := List.eq_nil_of_length_eq_zero h0
      obtain rfl : ys = [] := List.eq_nil_of_length_eq_zero hl.symm
      go_enter Tryd.func24, Tryd.ntmps24
      go_wp2
      refine wp_loop_rounds 1 ?_
      rw [rounds_succ]
      go_wp2
      go_ret
      exact ⟨by simp, 0, rfl⟩
    · obtain ⟨b1, o1, c1, rfl, -, hc1⟩ := h1.pos (by omega)
      obtain ⟨b2, o2, c2, rfl, -, hc2⟩ := h2.pos (by omega)
      rw [← hl]
      obtain ⟨n, hn⟩ : ∃ n, xs.length = n := ⟨_, rfl⟩
      rw [hn] at hm ⊢
      have HN := Lib.hid hn
      have HL := Lib.hid hl
      have H1 := Lib.hid hc1
      have H2 := Lib.hid hc2
      clear hn hl hc1 hc2 h1 h2 h0
      go_enter Tryd.func24, Tryd.ntmps24
      go_wp2
      go_loopw [13] (fun i wr => ∃ k : Nat, k ≤ n ∧ i = .int .i64 k ∧ (∀ j, j < k → xs[j]? = ys[j]?) ∧ ∃ m, wr = w.drewN m)
        (fun i _ => n - (intOf i).toNat)
      case atStart => exact ⟨0, by omega, rfl, fun j hj => by omega, 0, rfl⟩
      case round =>
        obtain ⟨k, hk, rfl, heq, m, rfl⟩ := hrel
        have HE := Lib.hid heq
        clear heq
        by_cases hlt : k < n
        · obtain ⟨x, hx⟩ : ∃ x, xs[k]? = some x := ⟨_, List.getElem?_eq_getElem (by have := HN.out; omega)⟩
          obtain ⟨y, hy⟩ : ∃ y, ys[k]? = some y := ⟨_, List.getElem?_eq_getElem (by have := HN.out; have := HL.out; omega)⟩
          have d1 := H1.out k x hx
          have d2 := H2.out k y hy
          have HX := Lib.hid hx
          have HY := Lib.hid hy
          clear hx hy
          by_cases hxy : x = y
          · subst hxy
            go_wp2
            go_quiet (fail)
            go_wp2
            go_roundw
            case rel => exact ⟨k + 1, by omega, by go_num, fun j hj => by
              by_cases e : j = k
              · rw [e, HX.out, HY.out]
              · exact HE.out j (by omega), _, rfl⟩
            case measure => simp [intOf]; omega
          · have hq : (x != y) = true := by simpa using hxy
            have HXY := Lib.hid hxy
            clear hxy
            go_wp2
            go_quiet (fail)
            go_wp2
            go_ret
            refine ⟨?_, _, World.drewN_drewN _ _ _⟩
            have : ¬ xs = ys := fun e => HXY.out (by have := HX.out; rw [e, HY.out] at this; exact (Option.some.inj this).symm)
            simp [this]
        · go_wp2
          go_ret
          refine ⟨?_, _, rfl⟩
          have : xs = ys := List.ext_getElem? fun j => by
            by_cases e : j < k
            · exact HE.out j e
            · rw [List.getElem?_eq_none (by have := HN.out; omega), List.getElem?_eq_none (by have := HN.out; have := HL.out; omega)]
          simp [this]
  · obtain ⟨a1, c1, rfl⟩ := h1.len
    obtain ⟨a2, c2, rfl⟩ := h2.len
    have hq : ((xs.length : Int) != ys.length) = true := by simp; omega
    have : ¬ xs = ys := fun e => hl (by rw [e])
    have HT := Lib.hid this
    clear this hl h1 h2
    go_enter Tryd.func24, Tryd.ntmps24
    go_wp2
    go_ret
    exact ⟨by simp [HT.out], 0, rfl⟩

def IndexPost (b : Bool) (w : World) (e : Ending) (w' : World) : Prop := ∃ r : Int, e = .returned (.int .i64 r) ∧ decide (r ≥ 0) = b ∧ -1 ≤ r ∧ r ≤ 4611686018427387904 ∧ w = w'
set_option maxHeartbeats 400000 in
theorem index_c (v : Value) (xs : List Int) (h : Int) (w : World) (h1 : Ints w v xs) (hm : xs.length ≤ 4611686018427387904) :
    Calls Tryd.prog 47 #[v, .int .i64 h] w (IndexPost (xs.contains h) w) := by
  have hcell : ∀ k, k < xs.length → ∃ x b off cap, xs[k]? = some x ∧ v = .slice (some ⟨b, off, none⟩) xs.length cap ∧ w.cell? ⟨b, off + k, none⟩ = some (.int .i64 x) := fun k hk => by
    obtain ⟨b, off, cap, hv, hb, hc⟩ := h1.pos (by omega)
    exact ⟨_, b, off, cap, List.getElem?_eq_getElem hk, hv, hc k _ (List.getElem?_eq_getElem hk)⟩
  obtain ⟨a, cap, rfl⟩ := h1.len
  obtain ⟨n, hn⟩ : ∃ n, xs.length = n := ⟨_, rfl⟩
  have HN := Lib.hid hn
  rw [hn] at hm ⊢
  have HC := Lib.hid hcell
  clear hcell h1 hn
  go_enter Tryd.func47, Tryd.ntmps47
  go_wp2
  go_loop [8] (fun i => ∃ k : Nat, k ≤ n ∧ i = .int .i64 k ∧ ∀ j, j < k → ∀ x, xs[j]? = some x → x ≠ h) (fun i => n - (intOf i).toNat)
  case atStart => exact ⟨0, by omega, rfl, fun j hj => by omega⟩
  case round =>
    obtain ⟨k, hk, rfl, heq⟩ := hrel
    have HE := Lib.hid heq
    clear heq
    by_cases hlt : k < n
    · obtain ⟨x, b, off, cap', hx, hv, hc⟩ := HC.out k (by have := HN.out; omega)
      injection hv with hv1 hv2 hv3
      subst hv1 hv3
      clear hv2
      have HX := Lib.hid hx
      clear hx
      by_cases hxy : h = x
      · subst hxy
        go_wp2
        go_ret
        refine ⟨k, rfl, ?_, by omega, by omega, rfl⟩
        have : h ∈ xs := List.mem_of_getElem? HX.out
        simp [this]
      · have hq : (h == x) = false := by simpa using hxy
        have HXY := Lib.hid hxy
        clear hxy
        go_wp2
        go_round
        case rel => exact ⟨k + 1, by omega, by go_num, fun j hj y hy => by
          by_cases e : j = k
          · rw [e, HX.out] at hy; injection hy with hy; exact fun e => HXY.out (by rw [← e, hy])
          · exact HE.out j (by omega) y hy⟩
        case measure => simp [intOf]; omega
    · go_wp2
      go_ret
      refine ⟨-1, rfl, ?_, by omega, by omega, rfl⟩
      have : h ∉ xs := fun hx => by
        obtain ⟨j, hj⟩ := List.getElem?_of_mem hx
        have := (List.getElem?_eq_some_iff.1 hj).1
        exact HE.out j (by have := HN.out; omega) h hj rfl
      simp [this]
theorem contains_c (v : Value) (xs : List Int) (h : Int) (b : Bool) (w : World) (h1 : Ints w v xs) (hm : xs.length ≤ 4611686018427387904) (hb : xs.contains h = b) :
    Calls Tryd.prog 36 #[v, .int .i64 h] w fun e w' => e = .returned (.bool b) ∧ w = w' := by
  have HC := Lib.hid (index_c v xs h w h1 hm)
  rw [hb] at HC
  clear h1 hm hb
  go_enter Tryd.func36, Tryd.ntmps36
  go_wp2_with fail
  refine HC.out.mono ?_
  rintro e w2 ⟨r, rfl, hr, hr1, hr2, rfl⟩
  have HR := Lib.hid hr
  clear hr
  go_wp2
  go_ret
  refine ⟨?_, rfl⟩
  rw [← HR.out]
  rfl

theorem Tryd.info3q : (Tryd.prog.info? 3).map (fun i => (i.zero, i.size, i.bytes)) = some (some (.int .i64 0), 1, 8) := by kernel_rfl
theorem el27 : ElemOk Tryd.prog 27 3 1 8 := .mk' Tryd.underlying27 Tryd.info3q rfl (by decide)
/-- A row of the call's own. -/
def OwnPost (xs : List Int) (w : World) (e : Ending) (w' : World) : Prop := ∃ v, e = .returned v ∧ w'.ownsRow w.heap.size 3 1 v xs.length (xs.map (Value.int .i64)) ∧ Kept (fun _ => False) w w'
set_option maxHeartbeats 400000 in
theorem clone_c (v : Value) (xs : List Int) (w : World) (h1 : Ints w v xs) (hm : xs.length ≤ 1000000000) :
    Calls Tryd.prog 28 #[v] w (OwnPost xs w) := by
  obtain ⟨i, z, hi, hz, hsz, hby, hzs⟩ := el27.info
  have hnil := fun (w : World) (a : Option Addr) (n c : Nat) => Lib.run_eql_slice_nil (P := Tryd.prog) w 27 3 a n c 0 0 Tryd.underlying27
  by_cases h0 : xs.length = 0
  · obtain ⟨a, cap, rfl⟩ := h1.len
    obtain rfl : xs = [] := List.eq_nil_of_length_eq_zero h0
    cases a with
    | none =>
      go_enter Tryd.func28, Tryd.ntmps28
      go_wp2
      go_ret
      exact ⟨_, rfl, World.ownsRow_nil _ _ _ _, Kept.refl _ _⟩
    | some a =>
      go_enter Tryd.func28, Tryd.ntmps28
      go_wp2_with (at_builtin; refine wpList_append_own _ rfl _ _ 27 rfl w.heap.size 3 i z 1 8 Tryd.underlying27 hi hz hsz hby hzs (by decide) _ 0 [] rfl ?c0 a 0 cap [] rfl rfl ?c1 ?c2 ?c3 ?c4 ?c5 ?_)
      case c0 => exact World.ownsRow_lit w #[] 0 (Nat.le_refl _) (by decide) rfl
      case c1 => intro j u h; simp at h
      case c2 => intro u h; simp at h
      case c3 => unfold maxLen; omega
      case c4 => omega
      case c5 => simp
      intro v' w' hown hg hn
      clear hnil
      go_wp2
      go_ret
      exact ⟨_, rfl, hown, ((Kept.refl _ w).alloc _).trans (Kept.of_grown hg) (fun i hi h => by simp [Value.ownBlock] at h; omega)⟩
  · obtain ⟨b, off, cap, rfl, hbl, hc⟩ := h1.pos (by omega)
    obtain ⟨n, hn⟩ : ∃ n, xs.length = n := ⟨_, rfl⟩
    rw [hn] at hm h0 ⊢
    have HN := Lib.hid hn
    clear hn h1
    go_enter Tryd.func28, Tryd.ntmps28
    go_wp2_with (at_builtin; refine wpList_append_own _ rfl _ _ 27 rfl w.heap.size 3 i z 1 8 Tryd.underlying27 hi hz hsz hby hzs (by decide) _ 0 [] rfl ?c0 ⟨b, off, none⟩ n cap (xs.map (Value.int .i64)) rfl ?cl ?c1 ?c2 ?c3 ?c4 ?c5 ?_)
    case c0 => exact World.ownsRow_lit w #[] 0 (Nat.le_refl _) (by decide) rfl
    case cl => simp; exact HN.out
    case c1 =>
      intro j u h
      rw [List.getElem?_map] at h
      obtain ⟨x, hx, rfl⟩ := Option.map_eq_some_iff.1 h
      have : (⟨b, off, none⟩ : Addr).add j = ⟨b, off + j, none⟩ := by unfold Addr.add; split <;> simp_all
      rw [this, World.cell?_alloc_past _ _ _ hbl]
      exact hc j x hx
    case c2 => intro u h; simp at h; obtain ⟨x, _, rfl⟩ := h; rfl
    case c3 => unfold maxLen; omega
    case c4 => omega
    case c5 => simp
    intro v' w' hown hg hn
    have HO := Lib.hid hown
    have HG := Lib.hid hg
    clear hnil hown hg hc
    go_wp2
    go_ret
    refine ⟨_, rfl, ?_, ((Kept.refl _ w).alloc _).trans (Kept.of_grown HG.out) (fun i hi h => by simp [Value.ownBlock] at h; omega)⟩
    have := HO.out
    rw [HN.out]
    simpa using this
end Go.Proofs.YthpbejdigllmbaaDoor
