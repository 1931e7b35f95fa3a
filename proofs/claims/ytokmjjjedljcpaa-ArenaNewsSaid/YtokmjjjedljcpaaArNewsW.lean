/- ArNewsW: texts for the statements of this seat: contracts of functions, walks, plain laws. Conditions: none. -/
import Derived.Test.YtokmjjjedljcpaaArNil
import Derived.Test.YtokmjjjedljcpaaArRefNew
import Derived.Test.YtokmjjjedljcpaaArLiveA
import Derived.Test.YtokmjjjedljcpaaArFun
namespace Go.Proofs.Ytokmjjjedljcpaa
open Go.RowKit

theorem empty_facts (n : Nat) (h : Int) : (AA.empty n).len = 0 ∧ (AA.empty n).room = n ∧ (AA.empty n).live.length = 0 ∧ (AA.empty n).find h = none := by
  have e : (AA.empty n).len = 0 := by
    rw [AA.of_empty, AA.len_of]
    exact List.countP_eq_zero.2 fun x _ => by simp
  refine ⟨e, ?_, by rw [AA.live_length, e], ?_⟩
  · rw [AA.of_empty, AA.room_of]
    have : (List.range n).countP (fun _ => (!false && (0 : Int) != 2147483648)) = (List.range n).length := List.countP_eq_length.2 fun x _ => by simp
    simp only [List.length_range] at this
    exact this
  · unfold AA.find
    split
    · rfl
    · rw [AA.of_empty, AA.of_get]
      by_cases q : (h % 4096).toNat < n
      · rw [if_pos q]; simp
      · rw [if_neg q]

/-- What the loop over what is no arena keeps. -/
def NewsRel (w : World) (L z : Nat) (wr : World) : Prop := IsZero wr z ∧ wr.cell? ⟨L, 0, none⟩ = some (.pointer none) ∧ wr.cell? ⟨L, 1, none⟩ = some (.pointer (some ⟨z, 0, none⟩)) ∧ L < wr.heap.size ∧ Kept (fun _ => False) w wr
theorem NewsRel.start {w W : World} (K : Kept (fun _ => False) w W) :
    NewsRel w (W.heap.size + 1) W.heap.size ((W.alloc (.cells #[.bool false, .slice none 0 0, .int .i64 0, .int .i64 0, .int .i64 0, .int .i64 0] 45)).alloc (.cells #[.pointer none, .pointer (some ⟨W.heap.size, 0, none⟩)] 22)) := by
  have e : ∀ j, ((W.alloc (.cells #[.bool false, .slice none 0 0, .int .i64 0, .int .i64 0, .int .i64 0, .int .i64 0] 45)).alloc (.cells #[.pointer none, .pointer (some ⟨W.heap.size, 0, none⟩)] 22)).cell? ⟨W.heap.size, j, none⟩ =
      (#[.bool false, .slice none 0 0, .int .i64 0, .int .i64 0, .int .i64 0, .int .i64 0] : Array Value)[j]? := fun j => by
    rw [World.cell?_alloc_past _ _ _ (by simp), World.cell?_alloc_at _ _ _ _ rfl]
  exact ⟨⟨e 0, e 1, e 4, e 5, by simp; omega⟩, by rw [World.cell?_alloc_at _ _ _ _ (by simp)]; rfl, by rw [World.cell?_alloc_at _ _ _ _ (by simp)]; rfl, by simp, (K.alloc _).alloc _⟩
theorem NewsRel.kept {w W W' : World} {L z : Nat} (h : NewsRel w L z W) (K : Kept (fun _ => False) W W') : NewsRel w L z W' :=
  ⟨h.1.kept K, (K.cell (a := ⟨L, 0, none⟩) h.2.2.2.1 (fun h => h)).trans h.2.1, (K.cell (a := ⟨L, 1, none⟩) h.2.2.2.1 (fun h => h)).trans h.2.2.1, Nat.lt_of_lt_of_le h.2.2.2.1 K.size, h.2.2.2.2.trans K (fun _ _ h => h)⟩
theorem NewsRel.at {w W : World} {L z j : Nat} (h : NewsRel w L z W) (hj : j < 2) : ∃ p, W.cell? ⟨L, j, none⟩ = some (.pointer p) ∧ IsNone W p := by
  rcases (by omega : j = 0 ∨ j = 1) with rfl | rfl
  · exact ⟨none, h.2.1, .inl rfl⟩
  · exact ⟨_, h.2.2.1, .inr ⟨z, rfl, h.1⟩⟩

set_option maxHeartbeats 4000000 in
set_option maxRecDepth 100000 in
theorem news_c (size v h : Int) (w : World) (hh : h ≤ 9223372036854775807) :
    Calls Try.prog 6 #[.int .i64 size, .int .i64 v, .int .i64 h] w fun e w' => e = .returned (.bool true) ∧ Kept (fun _ => False) w w' := by
  by_cases hs : size < 0 ∨ 4096 < size
  · have HN := Lib.hid (fun w => new_no size w hs)
    have HRN := Lib.hid (fun w => rnew_no size w hs)
    clear hs
    go_enter Try.func6, Try.ntmps6
    go_wp2_with fail
    refine (HN.out _).mono ?_
    rintro e w1 ⟨rfl, rfl⟩
    go_wp2_with fail
    refine (HRN.out _).mono ?_
    rintro e w1 ⟨rfl, rfl⟩
    go_wp2_with fail
    have R0 := Lib.hid (NewsRel.start (w := w) (W := w) (Kept.refl _ w))
    obtain ⟨L, hL⟩ : ∃ L, w.heap.size + 1 = L := ⟨_, rfl⟩
    obtain ⟨z, hz⟩ : ∃ z, w.heap.size = z := ⟨_, rfl⟩
    rw [hL] at R0 ⊢
    rw [hz] at R0 ⊢
    clear hL hz
    go_loopw [68] (fun i wr => ∃ j : Nat, j ≤ 2 ∧ i = .int .i64 j ∧ Hid (NewsRel w L z wr)) (fun i _ => 2 - (intOf i).toNat)
    case atStart => exact ⟨0, by omega, rfl, R0⟩
    case round =>
      clear R0
      obtain ⟨j, hj, rfl, R⟩ := hrel
      by_cases hlt : j < 2
      · obtain ⟨p, hp, hn⟩ := R.out.at hlt
        have HN := Lib.hid hn
        clear hn
        go_wp2_with fail
        refine (put_n p v _ HN.out).mono ?_
        rintro e w2 ⟨rfl, rfl⟩
        go_wp2_with fail
        refine (get_n p h _ HN.out).mono ?_
        rintro e w2 ⟨rfl, rfl⟩
        go_wp2_with fail
        refine (free_n p h _ HN.out).mono ?_
        rintro e w2 ⟨rfl, rfl⟩
        go_wp2_with fail
        refine (len_n p _ HN.out).mono ?_
        rintro e w2 ⟨rfl, rfl⟩
        go_wp2_with fail
        refine (room_n p _ HN.out).mono ?_
        rintro e w2 ⟨rfl, K2⟩
        have R := Lib.hid (R.out.kept K2)
        have HN := Lib.hid (HN.out.kept K2)
        clear hp K2
        go_wp2_with fail
        refine (live_n p _ HN.out).mono ?_
        rintro e w3 ⟨rfl, K3⟩
        have R := Lib.hid (R.out.kept K3)
        have HN := Lib.hid (HN.out.kept K3)
        clear K3
        go_wp2_with fail
        refine (copy_n p _ HN.out).mono ?_
        rintro e w4 ⟨rfl, rfl⟩
        go_wp2
        go_roundw
        case rel => exact ⟨j + 1, by omega, by go_num, R⟩
        case measure => simp [intOf]; omega
      · obtain rfl : j = 2 := by omega
        go_wp2_with fail
        refine (works_c _).mono ?_
        rintro e w4 ⟨rfl, K4⟩
        go_wp2
        go_ret
        exact ⟨rfl, R.out.2.2.2.2.trans K4 (fun _ _ h => h)⟩
  · obtain ⟨n, rfl⟩ := Int.eq_ofNat_of_zero_le (show 0 ≤ size by omega)
    have hn : n ≤ 4096 := by omega
    clear hs
    obtain ⟨e1, e2, e3, e4⟩ := empty_facts n h
    have HE := Lib.hid (And.intro e1 (And.intro e2 (And.intro e3 e4)))
    clear e1 e2 e3 e4
    go_enter Try.func6, Try.ntmps6
    go_wp2_with fail
    refine (new_a n _ (by omega) (by omega)).mono ?_
    rintro e w1 ⟨rfl, I0, K0⟩
    rw [Int.toNat_natCast] at I0
    go_wp2_with fail
    refine (rnew_yes n _ hn).mono ?_
    rintro e w2 ⟨rb, ub, tb, vb, rfl, K1, -⟩
    have I1 := I0.kept K1 (fun h => h) (fun h => h)
    have KK := K0.trans K1 (fun _ _ h => h)
    clear I0 K0 K1
    have HL := Lib.hid (len_a I1 (n := 0) (by rw [HE.out.1]; rfl))
    have HR := Lib.hid (room_a I1 (n := (n : Int)) (by rw [HE.out.2.1]))
    go_wp2_with fail
    refine HL.out.mono ?_
    rintro e w3 ⟨rfl, rfl⟩
    go_wp2_with fail
    refine HR.out.mono ?_
    rintro e w3 ⟨rfl, I3, K3⟩
    have KK := KK.trans K3 (fun _ _ h => h)
    have HLV := Lib.hid (live_a I3)
    clear HL HR K3 I1
    go_wp2_with fail
    refine HLV.out.mono ?_
    rintro e w4 ⟨v4, rfl, hown, K4⟩
    rw [HE.out.2.2.1] at hown
    have I4 := I3.kept K4 (fun h => h) (fun h => h)
    have KK := KK.trans K4 (fun _ _ h => h)
    have hv4 : ∃ a c, v4 = .slice a 0 c := by
      rcases hown.2 with ⟨h, -⟩ | ⟨g, c, cur, hv, -⟩
      · exact ⟨_, _, h⟩
      · exact ⟨_, _, hv⟩
    obtain ⟨a4, c4, rfl⟩ := hv4
    have HF := Lib.hid (free_a I4 hh (show (AA.empty n).free h = (AA.empty n, 5) by unfold AA.free; rw [HE.out.2.2.2]))
    have la := I4.lta
    clear HLV K4 I3 hown I4
    go_wp2_with fail
    refine HF.out.mono ?_
    rintro e w5 ⟨rfl, I5, K5⟩
    have KK := KK.trans K5 (fun i hi h => by rcases h with h | h <;> omega)
    clear K5 I5 HF la
    go_wp2_with fail
    have R0 := Lib.hid (NewsRel.start (w := w) (W := w5) KK)
    obtain ⟨L, hL⟩ : ∃ L, w5.heap.size + 1 = L := ⟨_, rfl⟩
    obtain ⟨z, hz⟩ : ∃ z, w5.heap.size = z := ⟨_, rfl⟩
    rw [hL] at R0 ⊢
    rw [hz] at R0 ⊢
    clear hL hz
    go_loopw [68] (fun i wr => ∃ j : Nat, j ≤ 2 ∧ i = .int .i64 j ∧ Hid (NewsRel w L z wr)) (fun i _ => 2 - (intOf i).toNat)
    case atStart => exact ⟨0, by omega, rfl, R0⟩
    case round =>
      clear R0
      obtain ⟨j, hj, rfl, R⟩ := hrel
      by_cases hlt : j < 2
      · obtain ⟨p, hp, hn⟩ := R.out.at hlt
        have HN := Lib.hid hn
        clear hn
        go_wp2_with fail
        refine (put_n p v _ HN.out).mono ?_
        rintro e w2 ⟨rfl, rfl⟩
        go_wp2_with fail
        refine (get_n p h _ HN.out).mono ?_
        rintro e w2 ⟨rfl, rfl⟩
        go_wp2_with fail
        refine (free_n p h _ HN.out).mono ?_
        rintro e w2 ⟨rfl, rfl⟩
        go_wp2_with fail
        refine (len_n p _ HN.out).mono ?_
        rintro e w2 ⟨rfl, rfl⟩
        go_wp2_with fail
        refine (room_n p _ HN.out).mono ?_
        rintro e w2 ⟨rfl, K2⟩
        have R := Lib.hid (R.out.kept K2)
        have HN := Lib.hid (HN.out.kept K2)
        clear hp K2
        go_wp2_with fail
        refine (live_n p _ HN.out).mono ?_
        rintro e w3 ⟨rfl, K3⟩
        have R := Lib.hid (R.out.kept K3)
        have HN := Lib.hid (HN.out.kept K3)
        clear K3
        go_wp2_with fail
        refine (copy_n p _ HN.out).mono ?_
        rintro e w4 ⟨rfl, rfl⟩
        go_wp2
        go_roundw
        case rel => exact ⟨j + 1, by omega, by go_num, R⟩
        case measure => simp [intOf]; omega
      · obtain rfl : j = 2 := by omega
        go_wp2_with fail
        refine (works_c _).mono ?_
        rintro e w4 ⟨rfl, K4⟩
        go_wp2
        go_ret
        exact ⟨rfl, R.out.2.2.2.2.trans K4 (fun _ _ h => h)⟩
end Go.Proofs.Ytokmjjjedljcpaa
