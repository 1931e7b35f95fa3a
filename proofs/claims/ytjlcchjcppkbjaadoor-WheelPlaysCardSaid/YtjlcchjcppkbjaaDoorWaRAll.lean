/- WaRAll: texts for the statements of this seat: contracts of functions, walks, plain laws. Conditions: none. -/
import Derived.Deep.Cut
import Derived.Deep.CutRange
import Derived.Deep.DeepCutAuto
import Derived.Test.YtjlcchjcppkbjaaDoorProg
import Derived.Deep.QuietTactic
import Derived.BigQuiet
import Derived.WalkKit
import Derived.WalkSpells
import Derived.WalkLawsBesides
import Derived.Lib.Hide
import Derived.Deep.RegionLaw
import Derived.Test.YtjlcchjcppkbjaaDoorWaAll
import Derived.Test.YtjlcchjcppkbjaaDoorGeAll
set_option linter.all false

/- The document's arena in memory; contracts of the functions that read it. -/
namespace Go.Proofs.YtjlcchjcppkbjaaDoor
open Go.RowKit

structure IsR (w : World) (base rb : Nat) (v1 v2 v3 v4 : Value) (a : AA) : Prop where
  hd : RowAt w rb [.bool true, v1, v2, v3, v4]
  uses : w.ownsRow base 2 1 v1 a.sl.length (a.sl.map fun s => .int .i64 s.use)
  tks : w.ownsRow base 4 1 v2 a.sl.length (a.sl.map fun s => .bool s.taken)
  vs : w.ownsRow base 3 1 v3 a.sl.length (a.sl.map fun s => .int .i64 s.v)
  frd : w.ownsRow base 3 1 v4 a.fl.length (a.fl.reverse.map fun (k : Nat) => .int .i64 k)
  a1 : ∀ b, v1.ownBlock = some b → b ≠ rb ∧ ¬ v2.ownBlock = some b ∧ ¬ v3.ownBlock = some b ∧ ¬ v4.ownBlock = some b
  a2 : ∀ b, v2.ownBlock = some b → b ≠ rb ∧ ¬ v3.ownBlock = some b ∧ ¬ v4.ownBlock = some b
  a3 : ∀ b, v3.ownBlock = some b → b ≠ rb ∧ ¬ v4.ownBlock = some b
  a4 : ∀ b, v4.ownBlock = some b → b ≠ rb
  lo : base ≤ rb
/-- The blocks of an arena of the document. -/
def FR (rb : Nat) (v1 v2 v3 v4 : Value) (b : Nat) : Prop := b = rb ∨ v1.ownBlock = some b ∨ v2.ownBlock = some b ∨ v3.ownBlock = some b ∨ v4.ownBlock = some b
theorem IsR.kept {S : Nat → Prop} {w w' : World} {base rb : Nat} {v1 v2 v3 v4 : Value} {a : AA} (h : IsR w base rb v1 v2 v3 v4 a) (K : Kept S w w') (hS : ∀ b, FR rb v1 v2 v3 v4 b → ¬ S b) : IsR w' base rb v1 v2 v3 v4 a :=
  ⟨RowAt.kept h.hd K (hS _ (.inl rfl)), ownsRow_kept h.uses K (fun b _ q => hS b (.inr (.inl q))), ownsRow_kept h.tks K (fun b _ q => hS b (.inr (.inr (.inl q)))), ownsRow_kept h.vs K (fun b _ q => hS b (.inr (.inr (.inr (.inl q))))), ownsRow_kept h.frd K (fun b _ q => hS b (.inr (.inr (.inr (.inr q))))), h.a1, h.a2, h.a3, h.a4, h.lo⟩
theorem IsR.same {w w' : World} {base rb : Nat} {v1 v2 v3 v4 : Value} {a : AA} (h : IsR w base rb v1 v2 v3 v4 a) (K : Kept (fun _ => False) w w') : IsR w' base rb v1 v2 v3 v4 a := h.kept K (fun _ _ h => h)
theorem own_v {w : World} {base e n : Nat} {v : Value} {xs : List Value} (h : w.ownsRow base e 1 v n xs) : ∃ p c, v = .slice p n c := by
  rcases h.2 with ⟨q, h0⟩ | ⟨g, cap, cur, q, -⟩
  · exact ⟨none, 0, by rw [q, h0]⟩
  · exact ⟨_, cap, q⟩
theorem own_cell {w : World} {base e n : Nat} {v : Value} {xs : List Value} (h : w.ownsRow base e 1 v n xs) {k : Nat} {u : Value} (hk : xs[k]? = some u) : ∃ g c, v = .slice (some ⟨g, 0, none⟩) n c ∧ n ≤ c ∧ w.cell? ⟨g, k, none⟩ = some u ∧ w.frozen? ⟨g, k, none⟩ = false ∧ k < n ∧ g < w.heap.size ∧ base ≤ g := by
  have hlen := h.1
  have hkn : k < n := by have := (List.getElem?_eq_some_iff.1 hk).1; omega
  rcases h.2 with ⟨q, h0⟩ | ⟨g, cap, cur, q, h1, h2, h3, h4⟩
  · omega
  · subst q
    refine ⟨g, cap, rfl, h3, ?_, ownsRow_frozen h k, hkn, (Array.getElem?_eq_some_iff.1 h2).1, h1⟩
    rw [h.cellAt k (by omega), hk]
theorem rmade_c {w : World} {base rb : Nat} {v1 v2 v3 v4 : Value} {a : AA} (h : IsR w base rb v1 v2 v3 v4 a) : Calls Tryd.prog 71 #[.pointer (some ⟨rb, 0, none⟩)] w fun e w' => e = .returned (.bool true) ∧ w = w' := by
  have c0 := h.hd.get (j := 0) rfl
  have cl := h.hd.lt
  clear h
  go_enter Tryd.func71, Tryd.ntmps71
  go_wp2
  go_ret
  exact ⟨rfl, rfl⟩
theorem rhandle_c {w : World} {base rb : Nat} {v1 v2 v3 v4 : Value} {a : AA} (h : IsR w base rb v1 v2 v3 v4 a) (ok : AOk a) {k : Nat} {s : U} (hs : a.sl[k]? = some s) : Calls Tryd.prog 72 #[.pointer (some ⟨rb, 0, none⟩), .int .i64 k] w fun e w' => e = .returned (.int .i64 (4096 * s.use + k)) ∧ w = w' := by
  obtain ⟨g, c, rfl, hc, u0, -, hk, -⟩ := own_cell h.uses (k := k) (u := .int .i64 s.use) (by rw [List.getElem?_map, hs]; rfl)
  have c1 := h.hd.get (j := 1) rfl
  have cl := h.hd.lt
  have hu := ok.use k s hs
  have hl := ok.len
  have i1 : (0 : Int) ≤ (k : Int) := by omega
  have i2 : (k : Int) < (a.sl.length : Int) := by omega
  have w1 : wrap64 (4096 * s.use) = 4096 * s.use := IntWalk.wrap64_in _ (by omega)
  have w2 : wrap64 (4096 * s.use + (k : Int)) = 4096 * s.use + (k : Int) := IntWalk.wrap64_in _ (by omega)
  clear h
  go_enter Tryd.func72, Tryd.ntmps72
  go_wp2
  go_ret
  exact ⟨rfl, rfl⟩
set_option maxHeartbeats 1000000 in
theorem rfind_c {w : World} {base rb : Nat} {v1 v2 v3 v4 : Value} {a : AA} (h : IsR w base rb v1 v2 v3 v4 a) (ok : AOk a) (hh : Int) : Calls Tryd.prog 73 #[.pointer (some ⟨rb, 0, none⟩), .int .i64 hh] w fun e w' => e = .returned (.int .i64 (a.at_ hh)) ∧ Kept (fun _ => False) w w' := by
  have HI := Lib.hid h
  have HO := Lib.hid ok
  obtain ⟨p1, q1, hv1⟩ := own_v h.uses
  obtain ⟨p2, q2, hv2⟩ := own_v h.tks
  subst hv1 hv2
  obtain ⟨n, hn⟩ : ∃ n, a.sl.length = n := ⟨_, rfl⟩
  have HN := Lib.hid hn
  have hnl : n ≤ 4096 := by rw [← hn]; exact ok.len
  rw [hn] at HI
  clear h ok hn
  go_enter Tryd.func73, Tryd.ntmps73
  go_wp2
  go_loopw [5] (fun i wr => ∃ j : Nat, j ≤ n ∧ i = .int .i64 j ∧ (∀ (k : Nat) (s : U), k < j → a.sl[k]? = some s → ¬ (s.taken = true ∧ 4096 * s.use + k = hh)) ∧ wr = w) (fun i _ => match i with | .int _ x => (n - x).toNat | _ => 0)
  case atStart => exact ⟨0, Nat.zero_le _, rfl, fun k s hk => by omega, rfl⟩
  case round =>
    obtain ⟨j, hj, rfl, hno, hw⟩ := hrel
    have hw2 := hw.symm
    clear hw
    subst hw2
    have HNO := Lib.hid hno
    have c1 := HI.out.hd.get (j := 1) rfl
    have c2 := HI.out.hd.get (j := 2) rfl
    have cl := HI.out.hd.lt
    clear hno
    by_cases hlt : j < n
    · obtain ⟨s, hs⟩ : ∃ s, a.sl[j]? = some s := ⟨_, List.getElem?_eq_getElem (by rw [HN.out]; exact hlt)⟩
      obtain ⟨g2, cc2, hv, hc2, t0, -, -, -⟩ := own_cell HI.out.tks (k := j) (u := .bool s.taken) (by rw [List.getElem?_map, hs]; rfl)
      injection hv with e1 e2 e3
      subst e1 e3
      have HH := Lib.hid (rhandle_c HI.out HO.out hs)
      have HS := Lib.hid hs
      have i1 : (0 : Int) ≤ (j : Int) := by omega
      have i2 : (j : Int) < (n : Int) := by omega
      clear hs e2
      cases ht : s.taken with
      | true =>
        have HT := Lib.hid ht
        rw [ht] at t0
        clear ht
        by_cases he : 4096 * s.use + (j : Int) = hh
        · have HA : Hid (a.at_ hh = (j : Int)) := Lib.hid (at_hit HO.out HS.out HT.out he)
          have b1 : (4096 * s.use + (j : Int) == hh) = true := by simpa using he
          clear he
          go_wp2_with (go_at_call 71; refine (rmade_c HI.out).mono ?_; rintro e w' ⟨rfl, rfl⟩)
          go_wp2_with (go_at_call 72; refine HH.out.mono ?_; rintro e w' ⟨rfl, rfl⟩)
          go_ret
          exact ⟨by rw [HA.out]; rfl, Kept.refl _ _⟩
        · have b1 : (4096 * s.use + (j : Int) == hh) = false := by simpa using he
          have HNX : Hid (∀ (k : Nat) (t : U), k < j + 1 → a.sl[k]? = some t → ¬ (t.taken = true ∧ 4096 * t.use + k = hh)) := Lib.hid fun k t hk hkt => by
            by_cases e : k = j
            · subst e
              rw [HS.out] at hkt
              injection hkt with hkt
              subst hkt
              exact fun q => he q.2
            · exact HNO.out k t (by omega) hkt
          clear he
          go_wp2_with (go_at_call 71; refine (rmade_c HI.out).mono ?_; rintro e w' ⟨rfl, rfl⟩)
          go_wp2_with (go_at_call 72; refine HH.out.mono ?_; rintro e w' ⟨rfl, rfl⟩)
          go_roundw
          case rel => exact ⟨j + 1, by omega, by go_num, HNX.out, trivial⟩
          case measure => first | (simp; done) | (simp; omega)
      | false =>
        have HNX : Hid (∀ (k : Nat) (t : U), k < j + 1 → a.sl[k]? = some t → ¬ (t.taken = true ∧ 4096 * t.use + k = hh)) := Lib.hid fun k t hk hkt => by
          by_cases e : k = j
          · subst e
            rw [HS.out] at hkt
            injection hkt with hkt
            subst hkt
            rw [ht]
            exact fun q => by cases q.1
          · exact HNO.out k t (by omega) hkt
        rw [ht] at t0
        clear ht
        go_wp2_with (go_at_call 71; refine (rmade_c HI.out).mono ?_; rintro e w' ⟨rfl, rfl⟩)
        go_roundw
        case rel => exact ⟨j + 1, by omega, by go_num, HNX.out, trivial⟩
        case measure => first | (simp; done) | (simp; omega)
    · obtain rfl : j = n := by omega
      have HA : Hid (a.at_ hh = -1) := Lib.hid (at_miss fun k s hs => HNO.out k s (by have := (List.getElem?_eq_some_iff.1 hs).1; rw [HN.out] at this; exact this) hs)
      go_wp2_with (go_at_call 71; refine (rmade_c HI.out).mono ?_; rintro e w' ⟨rfl, rfl⟩)
      go_ret
      exact ⟨by rw [HA.out]; rfl, Kept.refl _ _⟩
end Go.Proofs.YtjlcchjcppkbjaaDoor

/- Get, Live, Len, Room of the document's arena. -/
namespace Go.Proofs.YtjlcchjcppkbjaaDoor
open Go.RowKit
/-- Slots that can still be used. -/
def roomN (a : AA) (j : Nat) : Nat := (a.sl.take j).countP fun s => !s.taken && s.use != 2147483648
theorem roomN_succ {a : AA} {j : Nat} {s : U} (hs : a.sl[j]? = some s) : roomN a (j + 1) = roomN a j + (if (!s.taken && s.use != 2147483648) = true then 1 else 0) := by
  unfold roomN
  rw [List.take_add_one, hs, Option.toList_some, List.countP_append]
  simp [List.countP_cons]
set_option maxHeartbeats 1000000 in
theorem rroom_c {w : World} {base rb : Nat} {v1 v2 v3 v4 : Value} {a : AA} (h : IsR w base rb v1 v2 v3 v4 a) (ok : AOk a) : Calls Tryd.prog 59 #[.pointer (some ⟨rb, 0, none⟩)] w fun e w' => e = .returned (.int .i64 (a.room : Nat)) ∧ Kept (fun _ => False) w w' := by
  have HI := Lib.hid h
  have HO := Lib.hid ok
  obtain ⟨p1, q1, hv1⟩ := own_v h.uses
  obtain ⟨p2, q2, hv2⟩ := own_v h.tks
  subst hv1 hv2
  obtain ⟨n, hn⟩ : ∃ n, a.sl.length = n := ⟨_, rfl⟩
  have HN := Lib.hid hn
  have hnl : n ≤ 4096 := by rw [← hn]; exact ok.len
  rw [hn] at HI
  clear h ok hn
  go_enter Tryd.func59, Tryd.ntmps59
  go_wp2
  go_loopw [3, 4] (fun m i wr => ∃ j : Nat, j ≤ n ∧ i = .int .i64 j ∧ m = .int .i64 (roomN a j : Nat) ∧ wr = w) (fun _ i _ => match i with | .int _ x => (n - x).toNat | _ => 0)
  case atStart => exact ⟨0, Nat.zero_le _, rfl, rfl, rfl⟩
  case round =>
    obtain ⟨j, hj, rfl, rfl, hw⟩ := hrel
    have hw2 := hw.symm
    clear hw
    subst hw2
    have c1 := HI.out.hd.get (j := 1) rfl
    have c2 := HI.out.hd.get (j := 2) rfl
    have cl := HI.out.hd.lt
    have hrn : roomN a j ≤ 4096 := by
      unfold roomN
      have := List.countP_le_length (p := fun s : U => !s.taken && s.use != 2147483648) (l := a.sl.take j)
      rw [List.length_take, HN.out] at this
      omega
    by_cases hlt : j < n
    · obtain ⟨s, hs⟩ : ∃ s, a.sl[j]? = some s := ⟨_, List.getElem?_eq_getElem (by rw [HN.out]; exact hlt)⟩
      obtain ⟨g2, cc2, hv, hc2, t0, -, -, -⟩ := own_cell HI.out.tks (k := j) (u := .bool s.taken) (by rw [List.getElem?_map, hs]; rfl)
      injection hv with e1 e2 e3
      subst e1 e3
      obtain ⟨g1, cc1, hv', hc1, u0, -, -, -⟩ := own_cell HI.out.uses (k := j) (u := .int .i64 s.use) (by rw [List.getElem?_map, hs]; rfl)
      injection hv' with e4 e5 e6
      subst e4 e6
      have huse := HO.out.use j s hs
      have hsc := roomN_succ hs
      have i1 : (0 : Int) ≤ (j : Int) := by omega
      have i2 : (j : Int) < (n : Int) := by omega
      have ws : wrap64 ((roomN a j : Int) + 1) = (roomN a j : Int) + 1 := IntWalk.wrap64_in _ (by omega)
      clear hs e2 e5
      cases ht : s.taken with
      | true =>
        have HNX : Hid (roomN a (j + 1) = roomN a j) := Lib.hid (by rw [hsc, ht]; rfl)
        rw [ht] at t0
        clear ht hsc
        go_wp2_with (go_at_call 71; refine (rmade_c HI.out).mono ?_; rintro e w' ⟨rfl, rfl⟩)
        go_roundw
        case rel => exact ⟨j + 1, by omega, by go_num, by rw [HNX.out], trivial⟩
        case measure => first | (simp; done) | (simp; omega)
      | false =>
        rw [ht] at t0
        by_cases hu : s.use < 2147483648
        · have b1 : decide (s.use < 2147483648) = true := decide_eq_true hu
          have HNX : Hid (roomN a (j + 1) = roomN a j + 1) := Lib.hid (by rw [hsc, ht, if_pos (by simp; omega)])
          clear ht hsc hu
          go_wp2_with (go_at_call 71; refine (rmade_c HI.out).mono ?_; rintro e w' ⟨rfl, rfl⟩)
          go_roundw
          case rel => exact ⟨j + 1, by omega, by go_num, by rw [HNX.out]; first | rfl | (rw [ws]; push_cast; rfl) | (push_cast; rfl), trivial⟩
          case measure => first | (simp; done) | (simp; omega)
        · have b1 : decide (s.use < 2147483648) = false := decide_eq_false hu
          have HNX : Hid (roomN a (j + 1) = roomN a j) := Lib.hid (by rw [hsc, ht, if_neg (by simp; omega)]; rfl)
          clear ht hsc hu
          go_wp2_with (go_at_call 71; refine (rmade_c HI.out).mono ?_; rintro e w' ⟨rfl, rfl⟩)
          go_roundw
          case rel => exact ⟨j + 1, by omega, by go_num, by rw [HNX.out], trivial⟩
          case measure => first | (simp; done) | (simp; omega)
    · obtain rfl : j = n := by omega
      have HE : Hid (roomN a j = a.room) := Lib.hid (by unfold roomN AA.room; rw [List.take_of_length_le (by have := HN.out; omega)])
      go_wp2_with (go_at_call 71; refine (rmade_c HI.out).mono ?_; rintro e w' ⟨rfl, rfl⟩)
      go_ret
      exact ⟨by rw [← HE.out]; rfl, Kept.refl _ _⟩
end Go.Proofs.YtjlcchjcppkbjaaDoor

/- Stores into the document's arena. -/
namespace Go.Proofs.YtjlcchjcppkbjaaDoor
open Go.RowKit
theorem own_set {w : World} {base e n g c k : Nat} {xs : List Value} {u : Value} (h : w.ownsRow base e 1 (.slice (some ⟨g, 0, none⟩) n c) n xs) : (w.setCell ⟨g, k, none⟩ u).ownsRow base e 1 (.slice (some ⟨g, 0, none⟩) n c) n (xs.set k u) := by
  refine ⟨by rw [List.length_set]; exact h.1, ?_⟩
  rcases h.2 with ⟨q, -⟩ | ⟨g', cap', cur, q, h1, h2, h3, h4, h5, h6⟩
  · cases q
  · injection q with q q2 q3
    injection q with q
    injection q with q
    subst q q3
    refine .inr ⟨g, c, cur.setIfInBounds k u, rfl, h1, ?_, h3, h4, by simpa using h5, ?_⟩
    · simp [World.setCell, Array.getElem?_modify, h2]
    · rw [Array.toList_setIfInBounds, List.take_set, h6]
theorem own_firstN {w : World} {base e g n cap : Nat} {xs : List Value} (h : w.ownsRow base e 1 (.slice (some ⟨g, 0, none⟩) n cap) n xs) {m : Nat} (hm : m ≤ n) : w.ownsRow base e 1 (.slice (some ⟨g, 0, none⟩) m cap) m (xs.take m) := by
  have hl := h.1
  rcases h.2 with ⟨q, -⟩ | ⟨g', cap', cur, q, hg, hh, h1, h2, h3, h4⟩
  · cases q
  · injection q with q q2 q3
    injection q with q
    injection q with q
    subst q q3
    refine ⟨by rw [List.length_take]; omega, .inr ⟨g, cap, cur, rfl, hg, hh, by omega, h2, h3, ?_⟩⟩
    rw [← h4, List.take_take, Nat.min_eq_left (by omega), Nat.mul_one]
variable {w : World} {base rb : Nat} {v1 v2 v3 v4 : Value} {a : AA}
theorem kept_set (w : World) (g k : Nat) (u : Value) : Kept (fun b => b = g) w (w.setCell ⟨g, k, none⟩ u) := (Kept.refl _ _).setCell _ _ (fun _ => rfl)
/-- The number of uses of a slot. -/
theorem IsR.setUse {g c k : Nat} {s : U} (h : IsR w base rb (.slice (some ⟨g, 0, none⟩) a.sl.length c) v2 v3 v4 a) (hs : a.sl[k]? = some s) (x : Int) : IsR (w.setCell ⟨g, k, none⟩ (.int .i64 x)) base rb (.slice (some ⟨g, 0, none⟩) a.sl.length c) v2 v3 v4 { a with sl := a.sl.set k { s with use := x } } := by
  have K := kept_set w g k (.int .i64 x)
  have d := h.a1 g rfl
  refine ⟨RowAt.kept h.hd K (fun q => d.1 q.symm), ?_, ?_, ?_, ownsRow_kept h.frd K (fun b _ q r => by subst r; exact d.2.2.2 q), h.a1, h.a2, h.a3, h.a4, h.lo⟩
  · simp only [List.length_set]
    rw [List.map_set]
    exact own_set h.uses
  · simp only [List.length_set]
    have e : (a.sl.set k { s with use := x }).map (fun s => Value.bool s.taken) = a.sl.map fun s => Value.bool s.taken := by
      rw [List.map_set]
      exact List.ext_getElem? fun i => by
        by_cases hi : i = k
        · subst hi
          have hk := (List.getElem?_eq_some_iff.1 hs).1
          rw [List.getElem?_set_self (by simpa using hk), List.getElem?_map, hs]; rfl
        · rw [List.getElem?_set_ne (fun q => hi q.symm)]
    rw [e]
    exact ownsRow_kept h.tks K (fun b _ q r => by subst r; exact d.2.1 q)
  · simp only [List.length_set]
    have e : (a.sl.set k { s with use := x }).map (fun s => Value.int .i64 s.v) = a.sl.map fun s => Value.int .i64 s.v := by
      rw [List.map_set]
      exact List.ext_getElem? fun i => by
        by_cases hi : i = k
        · subst hi
          have hk := (List.getElem?_eq_some_iff.1 hs).1
          rw [List.getElem?_set_self (by simpa using hk), List.getElem?_map, hs]; rfl
        · rw [List.getElem?_set_ne (fun q => hi q.symm)]
    rw [e]
    exact ownsRow_kept h.vs K (fun b _ q r => by subst r; exact d.2.2.1 q)
theorem IsR.setTaken {g c k : Nat} {s : U} (h : IsR w base rb v1 (.slice (some ⟨g, 0, none⟩) a.sl.length c) v3 v4 a) (hs : a.sl[k]? = some s) (x : Bool) : IsR (w.setCell ⟨g, k, none⟩ (.bool x)) base rb v1 (.slice (some ⟨g, 0, none⟩) a.sl.length c) v3 v4 { a with sl := a.sl.set k { s with taken := x } } := by
  have K := kept_set w g k (.bool x)
  have d := h.a2 g rfl
  refine ⟨RowAt.kept h.hd K (fun q => d.1 q.symm), ?_, ?_, ?_, ownsRow_kept h.frd K (fun b _ q r => by subst r; exact d.2.2 q), h.a1, h.a2, h.a3, h.a4, h.lo⟩
  · simp only [List.length_set]
    have e : (a.sl.set k { s with taken := x }).map (fun s => Value.int .i64 s.use) = a.sl.map fun s => Value.int .i64 s.use := by
      rw [List.map_set]
      exact List.ext_getElem? fun i => by
        by_cases hi : i = k
        · subst hi
          have hk := (List.getElem?_eq_some_iff.1 hs).1
          rw [List.getElem?_set_self (by simpa using hk), List.getElem?_map, hs]; rfl
        · rw [List.getElem?_set_ne (fun q => hi q.symm)]
    rw [e]
    exact ownsRow_kept h.uses K (fun b _ q r => by subst r; exact (h.a1 b q).2.1 rfl)
  · simp only [List.length_set]
    rw [List.map_set]
    exact own_set h.tks
  · simp only [List.length_set]
    have e : (a.sl.set k { s with taken := x }).map (fun s => Value.int .i64 s.v) = a.sl.map fun s => Value.int .i64 s.v := by
      rw [List.map_set]
      exact List.ext_getElem? fun i => by
        by_cases hi : i = k
        · subst hi
          have hk := (List.getElem?_eq_some_iff.1 hs).1
          rw [List.getElem?_set_self (by simpa using hk), List.getElem?_map, hs]; rfl
        · rw [List.getElem?_set_ne (fun q => hi q.symm)]
    rw [e]
    exact ownsRow_kept h.vs K (fun b _ q r => by subst r; exact d.2.1 q)
theorem IsR.setV {g c k : Nat} {s : U} (h : IsR w base rb v1 v2 (.slice (some ⟨g, 0, none⟩) a.sl.length c) v4 a) (hs : a.sl[k]? = some s) (x : Int) : IsR (w.setCell ⟨g, k, none⟩ (.int .i64 x)) base rb v1 v2 (.slice (some ⟨g, 0, none⟩) a.sl.length c) v4 { a with sl := a.sl.set k { s with v := x } } := by
  have K := kept_set w g k (.int .i64 x)
  have d := h.a3 g rfl
  refine ⟨RowAt.kept h.hd K (fun q => d.1 q.symm), ?_, ?_, ?_, ownsRow_kept h.frd K (fun b _ q r => by subst r; exact d.2 q), h.a1, h.a2, h.a3, h.a4, h.lo⟩
  · simp only [List.length_set]
    have e : (a.sl.set k { s with v := x }).map (fun s => Value.int .i64 s.use) = a.sl.map fun s => Value.int .i64 s.use := by
      rw [List.map_set]
      exact List.ext_getElem? fun i => by
        by_cases hi : i = k
        · subst hi
          have hk := (List.getElem?_eq_some_iff.1 hs).1
          rw [List.getElem?_set_self (by simpa using hk), List.getElem?_map, hs]; rfl
        · rw [List.getElem?_set_ne (fun q => hi q.symm)]
    rw [e]
    exact ownsRow_kept h.uses K (fun b _ q r => by subst r; exact (h.a1 b q).2.2.1 rfl)
  · simp only [List.length_set]
    have e : (a.sl.set k { s with v := x }).map (fun s => Value.bool s.taken) = a.sl.map fun s => Value.bool s.taken := by
      rw [List.map_set]
      exact List.ext_getElem? fun i => by
        by_cases hi : i = k
        · subst hi
          have hk := (List.getElem?_eq_some_iff.1 hs).1
          rw [List.getElem?_set_self (by simpa using hk), List.getElem?_map, hs]; rfl
        · rw [List.getElem?_set_ne (fun q => hi q.symm)]
    rw [e]
    exact ownsRow_kept h.tks K (fun b _ q r => by subst r; exact (h.a2 b q).2.1 rfl)
  · simp only [List.length_set]
    rw [List.map_set]
    exact own_set h.vs
/-- Another list of free slots. -/
theorem IsR.setFreed {v' : Value} {fl' : List Nat} (h : IsR w base rb v1 v2 v3 v4 a) (ho : w.ownsRow base 3 1 v' fl'.length (fl'.reverse.map fun (k : Nat) => .int .i64 k)) (hb : ∀ b, v'.ownBlock = some b → v4.ownBlock = some b ∨ ¬ FR rb v1 v2 v3 v4 b) : IsR (w.setCell ⟨rb, 4, none⟩ v') base rb v1 v2 v3 v' { a with fl := fl' } := by
  have K := kept_set w rb 4 v'
  have hn : ∀ b, v'.ownBlock = some b → b ≠ rb ∧ ¬ v1.ownBlock = some b ∧ ¬ v2.ownBlock = some b ∧ ¬ v3.ownBlock = some b := fun b q => by
    rcases hb b q with r | r
    · exact ⟨h.a4 b r, fun z => (h.a1 b z).2.2.2 r, fun z => (h.a2 b z).2.2 r, fun z => (h.a3 b z).2 r⟩
    · exact ⟨fun z => r (.inl z), fun z => r (.inr (.inl z)), fun z => r (.inr (.inr (.inl z))), fun z => r (.inr (.inr (.inr (.inl z))))⟩
  exact ⟨by have := RowAt.set h.hd (j := 4) (by simp) v'; simpa using this,
    ownsRow_kept h.uses K (fun b _ q r => (h.a1 b q).1 r), ownsRow_kept h.tks K (fun b _ q r => (h.a2 b q).1 r), ownsRow_kept h.vs K (fun b _ q r => (h.a3 b q).1 r), ownsRow_kept ho K (fun b _ q r => (hn b q).1 r),
    fun b q => ⟨(h.a1 b q).1, (h.a1 b q).2.1, (h.a1 b q).2.2.1, fun z => (hn b z).2.1 q⟩, fun b q => ⟨(h.a2 b q).1, (h.a2 b q).2.1, fun z => (hn b z).2.2.1 q⟩, fun b q => ⟨(h.a3 b q).1, fun z => (hn b z).2.2.2 q⟩, fun b q => (hn b q).1, h.lo⟩
theorem IsR.setFreed2 {w5 : World} {v' : Value} {fl' : List Nat} (h : IsR w base rb v1 v2 v3 v4 a) (K5 : Kept (fun b => v4.ownBlock = some b) w w5) (ho : w5.ownsRow base 3 1 v' fl'.length (fl'.reverse.map fun (k : Nat) => .int .i64 k)) (hb : ∀ b, v'.ownBlock = some b → v4.ownBlock = some b ∨ ¬ FR rb v1 v2 v3 v4 b) : IsR (w5.setCell ⟨rb, 4, none⟩ v') base rb v1 v2 v3 v' { a with fl := fl' } := by
  have K := kept_set w5 rb 4 v'
  have hn : ∀ b, v'.ownBlock = some b → b ≠ rb ∧ ¬ v1.ownBlock = some b ∧ ¬ v2.ownBlock = some b ∧ ¬ v3.ownBlock = some b := fun b q => by
    rcases hb b q with r | r
    · exact ⟨h.a4 b r, fun z => (h.a1 b z).2.2.2 r, fun z => (h.a2 b z).2.2 r, fun z => (h.a3 b z).2 r⟩
    · exact ⟨fun z => r (.inl z), fun z => r (.inr (.inl z)), fun z => r (.inr (.inr (.inl z))), fun z => r (.inr (.inr (.inr (.inl z))))⟩
  have hd5 := RowAt.kept h.hd K5 (fun q => h.a4 rb q rfl)
  exact ⟨by have := RowAt.set hd5 (j := 4) (by simp) v'; simpa using this,
    ownsRow_kept (ownsRow_kept h.uses K5 (fun b _ q r => (h.a1 b q).2.2.2 r)) K (fun b _ q r => (h.a1 b q).1 r), ownsRow_kept (ownsRow_kept h.tks K5 (fun b _ q r => (h.a2 b q).2.2 r)) K (fun b _ q r => (h.a2 b q).1 r), ownsRow_kept (ownsRow_kept h.vs K5 (fun b _ q r => (h.a3 b q).2 r)) K (fun b _ q r => (h.a3 b q).1 r), ownsRow_kept ho K (fun b _ q r => (hn b q).1 r),
    fun b q => ⟨(h.a1 b q).1, (h.a1 b q).2.1, (h.a1 b q).2.2.1, fun z => (hn b z).2.1 q⟩, fun b q => ⟨(h.a2 b q).1, (h.a2 b q).2.1, fun z => (hn b z).2.2.1 q⟩, fun b q => ⟨(h.a3 b q).1, fun z => (hn b z).2.2.2 q⟩, fun b q => (hn b q).1, h.lo⟩
end Go.Proofs.YtjlcchjcppkbjaaDoor

/- Free of the document's arena. -/
namespace Go.Proofs.YtjlcchjcppkbjaaDoor
open Go.RowKit
theorem Tryd.info3r : (Tryd.prog.info? 3).map (fun i => (i.zero, i.size, i.bytes)) = some (some (.int .i64 0), 1, 8) := by kernel_rfl
theorem el73r : ElemOk Tryd.prog 135 3 1 8 := .mk' Tryd.underlying135 Tryd.info3r rfl (by decide)
theorem nodup_len : ∀ (n : Nat) (l : List Nat), l.Nodup → (∀ x ∈ l, x < n) → l.length ≤ n
  | 0, l, _, h => by
    cases l with
    | nil => simp
    | cons x l => have := h x (by simp); omega
  | n + 1, l, hn, h => by
    have h1 := nodup_len n (l.filter (· != n)) (hn.filter _) (fun x hx => by
      have := h x (List.mem_filter.1 hx).1
      have h2 := (List.mem_filter.1 hx).2
      simp at h2
      omega)
    have h3 : l.length ≤ (l.filter (· != n)).length + 1 := by
      clear h1 h
      induction l with
      | nil => simp
      | cons a l ih =>
        rw [List.nodup_cons] at hn
        by_cases ha : a = n
        · subst ha
          have hf : l.filter (· != a) = l := List.filter_eq_self.2 fun b hb => by
            have : b ≠ a := fun q => hn.1 (q ▸ hb)
            simpa using this
          rw [List.filter_cons_of_neg (by simp), hf]
          simp
        · rw [List.filter_cons_of_pos (by simpa using ha)]
          have := ih hn.2
          simp only [List.length_cons]
          omega
    omega
theorem AOk.fll {a : AA} (ok : AOk a) : a.fl.length ≤ 4096 := by
  have := nodup_len a.sl.length a.fl ok.nodup (fun k hk => by
    obtain ⟨s, hs, -⟩ := ok.fl k hk
    exact (List.getElem?_eq_some_iff.1 hs).1)
  have := ok.len
  omega
theorem IsR.ltF {w : World} {base rb : Nat} {v1 v2 v3 v4 : Value} {a : AA} (h : IsR w base rb v1 v2 v3 v4 a) {b : Nat} (hb : FR rb v1 v2 v3 v4 b) : b < w.heap.size ∧ base ≤ b := by
  rcases hb with rfl | q | q | q | q
  · exact ⟨h.hd.lt, h.lo⟩
  · have := ownsRow_block h.uses q; exact ⟨this.2, this.1⟩
  · have := ownsRow_block h.tks q; exact ⟨this.2, this.1⟩
  · have := ownsRow_block h.vs q; exact ⟨this.2, this.1⟩
  · have := ownsRow_block h.frd q; exact ⟨this.2, this.1⟩
/-- What a call that changes the arena leaves. -/
def RPost (w w' : World) (base rb : Nat) (v1 v2 v3 v4 : Value) (a' : AA) : Prop := ∃ v4', IsR w' base rb v1 v2 v3 v4' a' ∧ Kept (FR rb v1 v2 v3 v4) w w' ∧ (∀ b, v4'.ownBlock = some b → v4.ownBlock = some b ∨ w.heap.size ≤ b)
set_option maxHeartbeats 1000000 in
theorem rfree_c {w : World} {base rb : Nat} {v1 v2 v3 v4 : Value} {a a' : AA} (h : IsR w base rb v1 v2 v3 v4 a) (ok : AOk a) {hh er : Int} (hp : a.free hh = (a', er)) :
    Calls Tryd.prog 57 #[.pointer (some ⟨rb, 0, none⟩), .int .i64 hh] w fun e w' => e = .returned (.int .i64 er) ∧ RPost w w' base rb v1 v2 v3 v4 a' := by
  have HF := Lib.hid (rfind_c h ok hh)
  have HI := Lib.hid h
  unfold AA.free at hp
  cases hf : a.find hh with
  | none =>
    rw [hf] at hp
    injection hp with e1 e2
    subst e1 e2
    have ha : a.at_ hh = -1 := by unfold AA.at_; rw [hf]
    rw [ha] at HF
    clear h ok hf ha
    go_enter Tryd.func57, Tryd.ntmps57
    go_wp2_with (go_at_call 71; refine (rmade_c HI.out).mono ?_; rintro e w' ⟨rfl, rfl⟩)
    refine HF.out.mono ?_
    rintro e w1 ⟨rfl, K⟩
    have HK := Lib.hid K
    clear K
    go_wp2
    go_ret
    exact ⟨rfl, v4, HI.out.same HK.out, HK.out.mono (fun _ _ q => q.elim), fun b q => .inl q⟩
  | some p =>
    obtain ⟨k, s⟩ := p
    rw [hf] at hp
    injection hp with e1 e2
    subst e2
    have HE := Lib.hid e1.symm
    clear e1
    have ha : a.at_ hh = (k : Int) := by unfold AA.at_; rw [hf]
    obtain ⟨hs, -, -⟩ := find_hit hf
    rw [ha] at HF
    have hl := ok.len
    have hfl := ok.fll
    have huse := ok.use k s hs
    have hkl := (List.getElem?_eq_some_iff.1 hs).1
    have HS := Lib.hid hs
    clear h ok hf ha
    go_enter Tryd.func57, Tryd.ntmps57
    go_wp2_with (go_at_call 71; refine (rmade_c HI.out).mono ?_; rintro e w' ⟨rfl, rfl⟩)
    refine HF.out.mono ?_
    rintro e w1 ⟨rfl, K⟩
    have h1 := HI.out.same K
    have HK := Lib.hid K
    obtain ⟨g2, c2, rfl, hc2, t0, t1, hk, hg2, -⟩ := own_cell h1.tks (k := k) (u := .bool s.taken) (by rw [List.getElem?_map, hs]; rfl)
    obtain ⟨g1, c1, rfl, hc1, u0, -, -, hg1, -⟩ := own_cell h1.uses (k := k) (u := .int .i64 s.use) (by rw [List.getElem?_map, hs]; rfl)
    have h2 := h1.setTaken hs false
    have K2 : Kept (FR rb (.slice (some ⟨g1, 0, none⟩) a.sl.length c1) (.slice (some ⟨g2, 0, none⟩) a.sl.length c2) v3 v4) w (w1.setCell ⟨g2, k, none⟩ (.bool false)) := (HK.out.mono (fun _ _ q => q.elim)).trans (kept_set w1 g2 k (.bool false)) (fun b _ (q : b = g2) => .inr (.inr (.inl (by rw [q]; rfl))))
    have HK2 := Lib.hid K2
    have HI2 := Lib.hid h2
    have d1 := h1.hd.get (j := 2) rfl
    have dl := h1.hd.lt
    have f1 := h2.hd.get (j := 1) rfl
    have f4 := h2.hd.get (j := 4) rfl
    have fl' := h2.hd.lt
    have ff := h2.hd.fz 4
    have hu2 : (w1.setCell ⟨g2, k, none⟩ (.bool false)).cell? ⟨g1, k, none⟩ = some (.int .i64 s.use) := by
      have hne : g1 ≠ g2 := fun q => (h1.a1 g1 rfl).2.1 (by rw [q]; rfl)
      rw [cell_set_blk _ _ _ _ hne]
      exact u0
    have i1 : (0 : Int) ≤ (k : Int) := by omega
    have i2 : (k : Int) < (a.sl.length : Int) := by omega
    obtain ⟨p4, c4, hv4⟩ := own_v h2.frd
    simp only [] at hv4
    subst hv4
    have hsize : (w1.setCell ⟨g2, k, none⟩ (.bool false)).heap.size = w1.heap.size := by simp
    have HSZ := Lib.hid hsize
    have HKS := Lib.hid HK.out.size
    clear K K2 h1 h2 hs hsize
    by_cases hlt : s.use < 2147483648
    · have b1 : decide (s.use < 2147483648) = true := decide_eq_true hlt
      have HE2 : Hid (a' = { sl := a.sl.set k { s with taken := false }, fl := k :: a.fl }) := Lib.hid (by rw [HE.out, if_neg (by omega)])
      have HOW : Hid ((w1.setCell ⟨g2, k, none⟩ (.bool false)).ownsRow base 3 1 (.slice p4 a.fl.length c4) a.fl.length (a.fl.reverse.map fun (k : Nat) => Value.int .i64 k)) := Lib.hid HI2.out.frd
      have HBS : Hid (base ≤ (w1.setCell ⟨g2, k, none⟩ (.bool false)).heap.size) := Lib.hid (by have := HI2.out.lo; have := HI2.out.hd.lt; omega)
      have HFIN : Hid (∀ gg cc w5, w5.ownsRow base 3 1 (.slice (some ⟨gg, 0, none⟩) (a.fl.length + 1) cc) (a.fl.length + 1) ((a.fl.reverse.map fun (k : Nat) => Value.int .i64 k) ++ [.int .i64 (k : Nat)]) → Kept (fun b => (Value.slice p4 a.fl.length c4).ownBlock = some b) (w1.setCell ⟨g2, k, none⟩ (.bool false)) w5 → ((Value.slice p4 a.fl.length c4).ownBlock = some gg ∨ (w1.setCell ⟨g2, k, none⟩ (.bool false)).heap.size ≤ gg) →
          RPost w (w5.setCell ⟨rb, 4, none⟩ (.slice (some ⟨gg, 0, none⟩) (a.fl.length + 1) cc)) base rb (.slice (some ⟨g1, 0, none⟩) a.sl.length c1) (.slice (some ⟨g2, 0, none⟩) a.sl.length c2) v3 (.slice p4 a.fl.length c4) a' ∧ w5.cell? ⟨rb, 4, none⟩ = some (.slice p4 a.fl.length c4) ∧ w5.frozen? ⟨rb, 4, none⟩ = false ∧ rb < w5.heap.size) := Lib.hid fun gg cc w5 ho K5 hor => by
        have hd5 := RowAt.kept HI2.out.hd K5 (fun q => HI2.out.a4 rb q rfl)
        refine ⟨⟨.slice (some ⟨gg, 0, none⟩) (a.fl.length + 1) cc, ?_, ?_, ?_⟩, hd5.get (j := 4) rfl, hd5.fz 4, hd5.lt⟩
        · rw [HE2.out]
          refine HI2.out.setFreed2 (fl' := k :: a.fl) K5 (by rw [List.reverse_cons, List.map_append]; exact ho) (fun b q => ?_)
          simp only [Value.ownBlock, Option.some.injEq] at q
          subst q
          rcases hor with r | r
          · exact .inl r
          · right
            intro z
            have := (HI2.out.ltF z).1
            omega
        · refine (HK2.out.trans K5 (fun b _ q => .inr (.inr (.inr (.inr q))))).trans (kept_set w5 rb 4 _) (fun b _ (q : b = rb) => .inl q)
        · intro b q
          simp only [Value.ownBlock, Option.some.injEq] at q
          subst q
          rcases hor with r | r
          · exact .inl r
          · right
            rw [HSZ.out] at r
            exact Nat.le_trans HKS.out r
      clear hlt
      go_wp2_with (at_builtin; go_loud (refine wpList_appN el73r rfl (.tmp 32) (.tmp 34) rfl (news := [.int .i64 (k : Nat)]) base (.slice p4 a.fl.length c4) a.fl.length 1 (a.fl.reverse.map fun (k : Nat) => Value.int .i64 k) rfl HOW.out (by simp [Act.eval]) rfl (by decide) (by simp [Value.oneCell']) (by unfold maxLen; omega) (by omega) HBS.out ?_))
      intro gg cc w5 hown5 K5 hor5
      rw [← List.map_reverse] at hown5
      obtain ⟨hfin, q1, q2, q3⟩ := HFIN.out gg cc w5 hown5 K5 (by rw [HSZ.out]; exact hor5)
      have HFI := Lib.hid hfin
      clear hfin hown5 K5 hor5 HFIN
      go_wp2
      go_ret
      exact ⟨rfl, HFI.out⟩
    · have b1 : decide (s.use < 2147483648) = false := decide_eq_false hlt
      have HFI : Hid (RPost w (w1.setCell ⟨g2, k, none⟩ (.bool false)) base rb (.slice (some ⟨g1, 0, none⟩) a.sl.length c1) (.slice (some ⟨g2, 0, none⟩) a.sl.length c2) v3 (.slice p4 a.fl.length c4) a') := Lib.hid (by
        rw [HE.out, if_pos (by omega)]
        exact ⟨_, HI2.out, HK2.out, fun b q => .inl q⟩)
      clear hlt
      go_wp2
      go_ret
      exact ⟨rfl, HFI.out⟩
end Go.Proofs.YtjlcchjcppkbjaaDoor

/- Put of the document's arena. -/
namespace Go.Proofs.YtjlcchjcppkbjaaDoor
open Go.RowKit
theorem rhandle2_c {w : World} {base rb : Nat} {v1 v2 v3 v4 : Value} {a : AA} (h : IsR w base rb v1 v2 v3 v4 a) (hl : a.sl.length ≤ 4096) {k : Nat} {s : U} (hs : a.sl[k]? = some s) (hu : 0 ≤ s.use ∧ s.use ≤ 2147483648) : Calls Tryd.prog 72 #[.pointer (some ⟨rb, 0, none⟩), .int .i64 k] w fun e w' => e = .returned (.int .i64 (4096 * s.use + k)) ∧ w = w' := by
  obtain ⟨g, c, rfl, hc, u0, -, hk, -⟩ := own_cell h.uses (k := k) (u := .int .i64 s.use) (by rw [List.getElem?_map, hs]; rfl)
  have c1 := h.hd.get (j := 1) rfl
  have cl := h.hd.lt
  have i1 : (0 : Int) ≤ (k : Int) := by omega
  have i2 : (k : Int) < (a.sl.length : Int) := by omega
  have w1 : wrap64 (4096 * s.use) = 4096 * s.use := IntWalk.wrap64_in _ (by omega)
  have w2 : wrap64 (4096 * s.use + (k : Int)) = 4096 * s.use + (k : Int) := IntWalk.wrap64_in _ (by omega)
  clear h
  go_enter Tryd.func72, Tryd.ntmps72
  go_wp2
  go_ret
  exact ⟨rfl, rfl⟩
/-- Three stores fill a slot. -/
theorem filled {w wx : World} {base rb : Nat} {p1 p2 p3 : Option Addr} {n c1 c2 c3 : Nat} {v4 v4' : Value} {a : AA} {r : List Nat} {k : Nat} {s : U} (h : IsR wx base rb (.slice p1 n c1) (.slice p2 n c2) (.slice p3 n c3) v4' { a with fl := r }) (hn : a.sl.length = n) (hl : n ≤ 4096) (hs : a.sl[k]? = some s) (hu : 0 ≤ s.use ∧ s.use < 2147483648) (v : Int)
    (K : Kept (FR rb (.slice p1 n c1) (.slice p2 n c2) (.slice p3 n c3) v4) w wx) (hb : ∀ b, v4'.ownBlock = some b → v4.ownBlock = some b ∨ w.heap.size ≤ b) :
    ∃ g1 g2 g3, p1 = some ⟨g1, 0, none⟩ ∧ p2 = some ⟨g2, 0, none⟩ ∧ p3 = some ⟨g3, 0, none⟩ ∧ k < n ∧
      (wx.cell? ⟨rb, 1, none⟩ = some (.slice (some ⟨g1, 0, none⟩) n c1) ∧ rb < wx.heap.size ∧ wx.cell? ⟨g1, k, none⟩ = some (.int .i64 s.use) ∧ wx.frozen? ⟨g1, k, none⟩ = false) ∧
      ((wx.setCell ⟨g1, k, none⟩ (.int .i64 (s.use + 1))).cell? ⟨rb, 2, none⟩ = some (.slice (some ⟨g2, 0, none⟩) n c2) ∧ (wx.setCell ⟨g1, k, none⟩ (.int .i64 (s.use + 1))).cell? ⟨g2, k, none⟩ = some (.bool s.taken) ∧ (wx.setCell ⟨g1, k, none⟩ (.int .i64 (s.use + 1))).frozen? ⟨g2, k, none⟩ = false) ∧
      (((wx.setCell ⟨g1, k, none⟩ (.int .i64 (s.use + 1))).setCell ⟨g2, k, none⟩ (.bool true)).cell? ⟨rb, 3, none⟩ = some (.slice (some ⟨g3, 0, none⟩) n c3) ∧ ((wx.setCell ⟨g1, k, none⟩ (.int .i64 (s.use + 1))).setCell ⟨g2, k, none⟩ (.bool true)).cell? ⟨g3, k, none⟩ = some (.int .i64 s.v) ∧ ((wx.setCell ⟨g1, k, none⟩ (.int .i64 (s.use + 1))).setCell ⟨g2, k, none⟩ (.bool true)).frozen? ⟨g3, k, none⟩ = false) ∧
      Calls Tryd.prog 72 #[.pointer (some ⟨rb, 0, none⟩), .int .i64 k] (((wx.setCell ⟨g1, k, none⟩ (.int .i64 (s.use + 1))).setCell ⟨g2, k, none⟩ (.bool true)).setCell ⟨g3, k, none⟩ (.int .i64 v)) (fun e w' => e = .returned (.int .i64 (4096 * (s.use + 1) + k)) ∧ (((wx.setCell ⟨g1, k, none⟩ (.int .i64 (s.use + 1))).setCell ⟨g2, k, none⟩ (.bool true)).setCell ⟨g3, k, none⟩ (.int .i64 v)) = w') ∧
      RPost w (((wx.setCell ⟨g1, k, none⟩ (.int .i64 (s.use + 1))).setCell ⟨g2, k, none⟩ (.bool true)).setCell ⟨g3, k, none⟩ (.int .i64 v)) base rb (.slice p1 n c1) (.slice p2 n c2) (.slice p3 n c3) v4 (a.fill k s v r) := by
  subst hn
  obtain ⟨g1, d1, e1, -, u0, u1, hk, -⟩ := own_cell h.uses (k := k) (u := .int .i64 s.use) (by simp [hs])
  obtain ⟨g2, d2, e2, -, -⟩ := own_cell h.tks (k := k) (u := .bool s.taken) (by simp [hs])
  obtain ⟨g3, d3, e3, -, -⟩ := own_cell h.vs (k := k) (u := .int .i64 s.v) (by simp [hs])
  injection e1 with e1 _ f1
  injection e2 with e2 _ f2
  injection e3 with e3 _ f3
  subst e1 e2 e3 f1 f2 f3
  have hkl : k < a.sl.length := (List.getElem?_eq_some_iff.1 hs).1
  have h14 := IsR.setUse (a := { a with fl := r }) h hs (s.use + 1)
  have s14 : (a.sl.set k { s with use := s.use + 1 })[k]? = some { s with use := s.use + 1 } := by rw [List.getElem?_set_self hkl]
  have h14' : IsR (wx.setCell ⟨g1, k, none⟩ (.int .i64 (s.use + 1))) base rb (.slice (some ⟨g1, 0, none⟩) a.sl.length c1) (.slice (some ⟨g2, 0, none⟩) (a.sl.set k { s with use := s.use + 1 }).length c2) (.slice (some ⟨g3, 0, none⟩) a.sl.length c3) v4' ⟨a.sl.set k { s with use := s.use + 1 }, r⟩ := by rw [List.length_set]; exact h14
  have h15 := IsR.setTaken (a := ⟨a.sl.set k { s with use := s.use + 1 }, r⟩) h14' s14 true
  have s15 : ((a.sl.set k { s with use := s.use + 1 }).set k { s with use := s.use + 1, taken := true })[k]? = some { s with use := s.use + 1, taken := true } := by rw [List.getElem?_set_self (by simpa using hkl)]
  have h15' : IsR ((wx.setCell ⟨g1, k, none⟩ (.int .i64 (s.use + 1))).setCell ⟨g2, k, none⟩ (.bool true)) base rb (.slice (some ⟨g1, 0, none⟩) a.sl.length c1) (.slice (some ⟨g2, 0, none⟩) a.sl.length c2) (.slice (some ⟨g3, 0, none⟩) ((a.sl.set k { s with use := s.use + 1 }).set k { s with use := s.use + 1, taken := true }).length c3) v4' ⟨(a.sl.set k { s with use := s.use + 1 }).set k { s with use := s.use + 1, taken := true }, r⟩ := by
    have := h15
    simp only [List.length_set] at this ⊢
    exact this
  have h16 := IsR.setV (a := ⟨(a.sl.set k { s with use := s.use + 1 }).set k { s with use := s.use + 1, taken := true }, r⟩) h15' s15 v
  have hfe : (⟨((a.sl.set k { s with use := s.use + 1 }).set k { s with use := s.use + 1, taken := true }).set k { s with use := s.use + 1, taken := true, v := v }, r⟩ : AA) = a.fill k s v r := by
    unfold AA.fill
    rw [List.set_set, List.set_set]
  have h16' : IsR (((wx.setCell ⟨g1, k, none⟩ (.int .i64 (s.use + 1))).setCell ⟨g2, k, none⟩ (.bool true)).setCell ⟨g3, k, none⟩ (.int .i64 v)) base rb (.slice (some ⟨g1, 0, none⟩) a.sl.length c1) (.slice (some ⟨g2, 0, none⟩) a.sl.length c2) (.slice (some ⟨g3, 0, none⟩) a.sl.length c3) v4' (a.fill k s v r) := by
    have := h16
    simp only [List.length_set] at this
    rw [← hfe]
    exact this
  obtain ⟨y2, z2, q2, -, t0, t1, -⟩ := own_cell h14.tks (k := k) (u := .bool s.taken) (by simp only []; rw [List.getElem?_map, s14]; rfl)
  obtain ⟨y3, z3, q3, -, x0, x1, -⟩ := own_cell h15.vs (k := k) (u := .int .i64 s.v) (by simp only []; rw [List.getElem?_map, s15]; rfl)
  injection q2 with q2 _ _
  injection q2 with q2
  injection q2 with q2
  injection q3 with q3 _ _
  injection q3 with q3
  injection q3 with q3
  subst q2 q3
  refine ⟨g1, g2, g3, rfl, rfl, rfl, hkl, ⟨h.hd.get (j := 1) rfl, h.hd.lt, u0, u1⟩, ⟨h14.hd.get (j := 2) rfl, t0, t1⟩, ⟨h15'.hd.get (j := 3) (by simp), x0, x1⟩, ?_, v4', h16', ?_, hb⟩
  · have hs16 : (a.fill k s v r).sl[k]? = some { use := s.use + 1, taken := true, v := v } := by unfold AA.fill; simp only []; rw [List.getElem?_set_self hkl]
    exact rhandle2_c h16' (by unfold AA.fill; simp only [List.length_set]; exact hl) hs16 (by simp only []; omega)
  · refine ((K.trans (kept_set wx g1 k _) (fun b _ (q : b = g1) => ?_)).trans (kept_set _ g2 k _) (fun b _ (q : b = g2) => ?_)).trans (kept_set _ g3 k _) (fun b _ (q : b = g3) => ?_)
    · exact .inr (.inl (by rw [q]; rfl))
    · exact .inr (.inr (.inl (by rw [q]; rfl)))
    · exact .inr (.inr (.inr (.inl (by rw [q]; rfl))))
end Go.Proofs.YtjlcchjcppkbjaaDoor

/- Put of the document's arena: the walk. -/
namespace Go.Proofs.YtjlcchjcppkbjaaDoor
open Go.RowKit
set_option maxHeartbeats 4000000 in
theorem rput_freed {w : World} {base rb : Nat} {v1 v2 v3 v4 : Value} {a : AA} (h : IsR w base rb v1 v2 v3 v4 a) (ok : AOk a) {k : Nat} {s : U} {r : List Nat} (hf : a.fl = k :: r) (hs : a.sl[k]? = some s) (v : Int) :
    Calls Tryd.prog 56 #[.pointer (some ⟨rb, 0, none⟩), .int .i64 v] w fun e w' => e = .returned (.tuple #[.int .i64 (4096 * (s.use + 1) + k), .int .i64 0]) ∧ RPost w w' base rb v1 v2 v3 v4 (a.fill k s v r) := by
  have HI := Lib.hid h
  obtain ⟨s', hs', -, hu1, hu2⟩ := ok.fl k (by rw [hf]; simp)
  rw [hs] at hs'
  injection hs' with hs'
  subst hs'
  have hu := ok.use k s hs
  have hl := ok.len
  have hfl := ok.fll
  obtain ⟨p1, q1, hv1⟩ := own_v h.uses
  obtain ⟨p2, q2, hv2⟩ := own_v h.tks
  obtain ⟨p3, q3, hv3⟩ := own_v h.vs
  subst hv1 hv2 hv3
  obtain ⟨q, hq⟩ : ∃ q, r.length = q := ⟨_, rfl⟩
  have hrev : a.fl.reverse.map (fun (k : Nat) => Value.int .i64 k) = (r.reverse.map fun (k : Nat) => Value.int .i64 k) ++ [.int .i64 (k : Nat)] := by rw [hf, List.reverse_cons, List.map_append]; rfl
  have hfll : a.fl.length = q + 1 := by rw [hf, List.length_cons, hq]
  rw [hfll] at hfl
  have hfrd := h.frd
  rw [hrev, hfll] at hfrd
  obtain ⟨g4, c4, hv4, hc4, d0, d1, -, hg4, -⟩ := own_cell hfrd (k := q) (u := .int .i64 (k : Nat)) (by rw [List.getElem?_append_right (by simp [hq])]; simp [hq])
  subst hv4
  have HFR : Hid (∀ W, Kept (fun _ => False) w W → IsR (W.setCell ⟨rb, 4, none⟩ (.slice (some ⟨g4, 0, none⟩) q c4)) base rb (.slice p1 a.sl.length q1) (.slice p2 a.sl.length q2) (.slice p3 a.sl.length q3) (.slice (some ⟨g4, 0, none⟩) q c4) { a with fl := r }) := Lib.hid fun W K => by
    refine (HI.out.same K).setFreed (fl' := r) ?_ (fun b q => .inl (by simpa [Value.ownBlock] using q))
    have h2 := own_firstN (ownsRow_kept hfrd K (fun _ _ _ h => h)) (m := q) (by omega)
    rw [List.take_left' (by simp [hq])] at h2
    rw [hq]
    exact h2
  obtain ⟨n, hn⟩ : ∃ n, a.sl.length = n := ⟨_, rfl⟩
  have HN := Lib.hid hn
  rw [hn] at hl HI HFR ⊢
  have HS := Lib.hid hs
  have x4 := HI.out.hd.get (j := 4) rfl
  have x1 := HI.out.hd.get (j := 1) rfl
  have xl := HI.out.hd.lt
  have xf := HI.out.hd.fz 4
  have i1 : (0 : Int) ≤ (q : Int) := by omega
  have i2 : (q : Int) < (q : Int) + 1 := by omega
  have i3 : (q : Int) + 1 - 1 = (q : Int) := by omega
  have i4 : IntKind.i64.wrap (q : Int) = (q : Int) := IntWalk.i64_in _ (by omega)
  have i5 : (q : Int) ≤ (c4 : Int) := by omega
  clear h hs hf hrev hfrd hfll hq hn ok
  go_enter Tryd.func56, Tryd.ntmps56
  go_wp2_with (go_at_call 71; refine (rmade_c HI.out).mono ?_; rintro e w' ⟨rfl, rfl⟩)
  go_quiet (fail)
  have HKW := Lib.hid ((Kept.refl (fun _ => False) w).drewN nq)
  have y4 : (w.drewN nq).cell? ⟨rb, 4, none⟩ = some (.slice (some ⟨g4, 0, none⟩) (q + 1) c4) := x4
  have yl : rb < (w.drewN nq).heap.size := xl
  have yf : (w.drewN nq).frozen? ⟨rb, 4, none⟩ = false := xf
  generalize w.drewN nq = W at HKW y4 yl yf ⊢
  go_wp2_with fail
  go_region
  have HX : Hid (IsR ((W.setCell ⟨rb, 4, none⟩ (.slice (some ⟨g4, 0, none⟩) q c4)).drew) base rb (.slice p1 n q1) (.slice p2 n q2) (.slice p3 n q3) (.slice (some ⟨g4, 0, none⟩) q c4) { a with fl := r }) := Lib.hid ((HFR.out W HKW.out).same (Kept.refl _ _).drew)
  have HKX : Hid (Kept (FR rb (.slice p1 n q1) (.slice p2 n q2) (.slice p3 n q3) (.slice (some ⟨g4, 0, none⟩) (q + 1) c4)) w ((W.setCell ⟨rb, 4, none⟩ (.slice (some ⟨g4, 0, none⟩) q c4)).drew)) := Lib.hid (((HKW.out.mono (fun _ _ q => q.elim)).trans (kept_set W rb 4 _) (fun b _ (q : b = rb) => .inl q)).drew)
  have HBX : Hid (∀ b, (Value.slice (some ⟨g4, 0, none⟩) q c4).ownBlock = some b → (Value.slice (some ⟨g4, 0, none⟩) (q + 1) c4).ownBlock = some b ∨ w.heap.size ≤ b) := Lib.hid fun b z => .inl (by simpa [Value.ownBlock] using z)
  clear y4 yl yf x4 x1 xl xf HFR HKW
  generalize (W.setCell ⟨rb, 4, none⟩ (.slice (some ⟨g4, 0, none⟩) q c4)).drew = WX at HX HKX ⊢
  obtain ⟨g1, g2, g3, e1, e2, e3, hkn, ⟨m1, ml, m2, m3⟩, ⟨m4, m5, m6⟩, ⟨m7, m8, m9⟩, hcall, hpost⟩ := filled HX.out HN.out hl HS.out (by omega) v HKX.out HBX.out
  subst e1 e2 e3
  have HCALL := Lib.hid hcall
  have HPOST := Lib.hid hpost
  have j1 : (0 : Int) ≤ (k : Int) := by omega
  have j2 : (k : Int) < (n : Int) := by omega
  have j3 : wrap64 (s.use + 1) = s.use + 1 := IntWalk.wrap64_in _ (by omega)
  have j4 : IntKind.i64.wrap (s.use + 1) = s.use + 1 := IntWalk.i64_in _ (by omega)
  clear hcall hpost HX HKX HBX
  go_wp2_with (go_at_call 72; fail)
  refine HCALL.out.mono ?_
  rintro e wz ⟨rfl, rfl⟩
  clear m1 ml m2 m3 m4 m5 m6 m7 m8 m9 HCALL
  go_wp2
  go_ret2
  exact ⟨rfl, HPOST.out⟩
/-- The first slot from j on that was never used; -1: none. -/
def low (l : List U) (j : Nat) : Int := match (l.drop j).findIdx? (fun s => s.use == 0) with
  | some i => ((j + i : Nat) : Int)
  | none => -1
theorem low_step {l : List U} {j : Nat} {s : U} (hs : l[j]? = some s) : low l j = if s.use = 0 then (j : Int) else low l (j + 1) := by
  obtain ⟨hj, he⟩ := List.getElem?_eq_some_iff.1 hs
  unfold low
  rw [List.drop_eq_getElem_cons hj, he, List.findIdx?_cons]
  by_cases h0 : s.use = 0
  · simp [h0]
  · have hb : (s.use == 0) = false := by simpa using h0
    rw [hb, if_neg (by decide), if_neg h0]
    cases (l.drop (j + 1)).findIdx? (fun s => s.use == 0) with
    | none => rfl
    | some i => simp only [Option.map_some]; omega
theorem low_end (l : List U) : low l l.length = -1 := by unfold low; rw [List.drop_length]; rfl
theorem low_bd (l : List U) (j : Nat) : -1 ≤ low l j ∧ low l j < l.length ∨ low l j = -1 := by
  unfold low
  split
  · rename_i i hi
    left
    have := (List.findIdx?_eq_some_iff_getElem.1 hi).1
    rw [List.length_drop] at this
    omega
  · exact .inr rfl
theorem low_zero (a : AA) : (low a.sl 0 = -1 ∧ a.sl[a.sl.findIdx (·.use == 0)]? = none) ∨ ∃ (k : Nat) (s : U), low a.sl 0 = (k : Int) ∧ a.sl.findIdx (·.use == 0) = k ∧ a.sl[k]? = some s ∧ s.use = 0 := by
  unfold low
  rw [List.drop_zero]
  cases hi : a.sl.findIdx? (fun s => s.use == 0) with
  | none =>
    left
    refine ⟨rfl, List.getElem?_eq_none ?_⟩
    rw [List.findIdx?_eq_none_iff_findIdx_eq] at hi
    omega
  | some i =>
    right
    obtain ⟨h1, h2⟩ := List.findIdx?_eq_some_iff_findIdx_eq.1 hi
    have h3 := (List.findIdx?_eq_some_iff_getElem.1 hi)
    obtain ⟨h4, h5, -⟩ := h3
    exact ⟨i, a.sl[i], by simp, h2, List.getElem?_eq_getElem h1, by simpa using h5⟩
set_option maxHeartbeats 4000000 in
theorem rput_nil {w : World} {base rb : Nat} {v1 v2 v3 v4 : Value} {a a' : AA} (h : IsR w base rb v1 v2 v3 v4 a) (ok : AOk a) (hf : a.fl = []) {v hd er : Int} (hp : a.put v = (a', hd, er)) :
    Calls Tryd.prog 56 #[.pointer (some ⟨rb, 0, none⟩), .int .i64 v] w fun e w' => e = .returned (.tuple #[.int .i64 hd, .int .i64 er]) ∧ RPost w w' base rb v1 v2 v3 v4 a' := by
  have HI := Lib.hid h
  have hl := ok.len
  obtain ⟨p1, q1, hv1⟩ := own_v h.uses
  obtain ⟨p2, q2, hv2⟩ := own_v h.tks
  obtain ⟨p3, q3, hv3⟩ := own_v h.vs
  obtain ⟨p4, q4, hv4⟩ := own_v h.frd
  rw [hf, List.length_nil] at hv4
  subst hv1 hv2 hv3 hv4
  obtain ⟨n, hn⟩ : ∃ n, a.sl.length = n := ⟨_, rfl⟩
  have HN := Lib.hid hn
  rw [hn] at hl HI ⊢
  have HP := Lib.hid hp
  have HFL := Lib.hid hf
  have HL0 := Lib.hid (low_zero a)
  have HLE : Hid (low a.sl n = -1) := Lib.hid (by rw [← hn]; exact low_end _)
  have x4 := HI.out.hd.get (j := 4) rfl
  have x1 := HI.out.hd.get (j := 1) rfl
  have xl := HI.out.hd.lt
  clear h hf hp hn ok
  go_enter Tryd.func56, Tryd.ntmps56
  go_wp2_with (go_at_call 71; refine (rmade_c HI.out).mono ?_; rintro e w' ⟨rfl, rfl⟩)
  go_loopw [6, 7] (fun sl i wr => ∃ j : Nat, j ≤ n ∧ i = .int .i64 ((j : Int) - 1) ∧ sl = .int .i64 (low a.sl j) ∧ wr = w) (fun _ i _ => match i with | .int _ x => (x + 1).toNat | _ => 0)
  case atStart => exact ⟨n, Nat.le_refl _, rfl, by rw [HLE.out], rfl⟩
  case round =>
    obtain ⟨j, hj, rfl, rfl, hw⟩ := hrel
    have hw2 := hw.symm
    clear hw
    subst hw2
    by_cases hlt : 0 < j
    · obtain ⟨k, rfl⟩ : ∃ k, j = k + 1 := ⟨j - 1, by omega⟩
      obtain ⟨s, hs⟩ : ∃ s, a.sl[k]? = some s := ⟨_, List.getElem?_eq_getElem (by rw [HN.out]; omega)⟩
      obtain ⟨g1, cc1, hv, hc1, u0, -, -, -⟩ := own_cell HI.out.uses (k := k) (u := .int .i64 s.use) (by rw [List.getElem?_map, hs]; rfl)
      injection hv with e1 e2 e3
      subst e1 e3
      have HST := Lib.hid (low_step hs)
      have e0 : ((k + 1 : Nat) : Int) - 1 = (k : Int) := by omega
      rw [e0]
      have i1 : (0 : Int) ≤ (k : Int) := by omega
      have i2 : (k : Int) < (n : Int) := by omega
      have i3 : wrap64 ((k : Int) - 1) = (k : Int) - 1 := IntWalk.wrap64_in _ (by omega)
      clear hs e2 e0
      by_cases h0 : s.use = 0
      · have b1 : (s.use == 0) = true := by simpa using h0
        have HLO : Hid (low a.sl k = (k : Int)) := Lib.hid (by rw [HST.out, if_pos h0])
        clear h0
        go_wp2
        go_roundw
        case rel => exact ⟨k, by omega, by first | rfl | go_num, by rw [HLO.out], trivial⟩
        case measure => first | (simp; done) | (simp; omega)
      · have b1 : (s.use == 0) = false := by simpa using h0
        have HLO : Hid (low a.sl k = low a.sl (k + 1)) := Lib.hid (by rw [HST.out, if_neg h0])
        clear h0
        go_wp2
        go_roundw
        case rel => exact ⟨k, by omega, by first | rfl | go_num, by rw [HLO.out], trivial⟩
        case measure => first | (simp; done) | (simp; omega)
    · obtain rfl : j = 0 := by omega
      rcases HL0.out with ⟨hlo, hno⟩ | ⟨k, s, hlo, hfi, hs, hu0⟩
      · have HRES : Hid (a' = a ∧ hd = 0 ∧ er = 4) := Lib.hid (by
          have := HP.out
          unfold AA.put AA.pick at this
          rw [HFL.out] at this
          simp only [] at this
          rw [hno] at this
          simp only [Option.map_none] at this
          injection this with q1 q2
          injection q2 with q2 q3
          exact ⟨q1.symm, q2.symm, q3.symm⟩)
        have HRP : Hid (RPost w w base rb (.slice p1 n q1) (.slice p2 n q2) (.slice p3 n q3) (.slice p4 0 q4) a') := Lib.hid (by
          rw [HRES.out.1]
          exact ⟨_, HI.out, Kept.refl _ _, fun b z => .inl z⟩)
        rw [hlo]
        clear hlo hno
        go_wp2
        go_ret2
        exact ⟨by rw [HRES.out.2.1, HRES.out.2.2]; rfl, HRP.out⟩
      · have HRES : Hid (a' = a.fill k s v [] ∧ hd = 4096 * (s.use + 1) + k ∧ er = 0) := Lib.hid (by
          have := HP.out
          unfold AA.put AA.pick at this
          rw [HFL.out] at this
          simp only [] at this
          rw [hfi, hs] at this
          simp only [Option.map_some] at this
          injection this with q1 q2
          injection q2 with q2 q3
          exact ⟨q1.symm, q2.symm, q3.symm⟩)
        have HS := Lib.hid hs
        have hfa : ({ a with fl := [] } : AA) = a := by have := HFL.out; cases a; simp_all
        have HX : Hid (IsR w base rb (.slice p1 n q1) (.slice p2 n q2) (.slice p3 n q3) (.slice p4 0 q4) { a with fl := [] }) := Lib.hid (by rw [hfa]; exact HI.out)
        have HKX : Hid (Kept (FR rb (.slice p1 n q1) (.slice p2 n q2) (.slice p3 n q3) (.slice p4 0 q4)) w w) := Lib.hid (Kept.refl _ _)
        have HBX : Hid (∀ b, (Value.slice p4 0 q4).ownBlock = some b → (Value.slice p4 0 q4).ownBlock = some b ∨ w.heap.size ≤ b) := Lib.hid fun b z => .inl z
        have hub : -1 < s.use ∧ s.use < 1 := by omega
        rw [hlo]
        clear hlo hfi hs hfa x4 x1 xl hu0
        obtain ⟨g1, g2, g3, e1, e2, e3, hkn, ⟨m1, ml, m2, m3⟩, ⟨m4, m5, m6⟩, ⟨m7, m8, m9⟩, hcall, hpost⟩ := filled HX.out HN.out hl HS.out (by omega) v HKX.out HBX.out
        subst e1 e2 e3
        have HCALL := Lib.hid hcall
        have HPOST := Lib.hid hpost
        have j1 : (0 : Int) ≤ (k : Int) := by omega
        have j2 : (k : Int) < (n : Int) := by omega
        have j3 : wrap64 (s.use + 1) = s.use + 1 := IntWalk.wrap64_in _ (by omega)
        have j4 : IntKind.i64.wrap (s.use + 1) = s.use + 1 := IntWalk.i64_in _ (by omega)
        clear hcall hpost HX HKX HBX
        go_wp2_with (go_at_call 72; fail)
        refine HCALL.out.mono ?_
        rintro e wz ⟨rfl, rfl⟩
        clear m1 ml m2 m3 m4 m5 m6 m7 m8 m9 HCALL
        go_wp2
        go_ret2
        exact ⟨by rw [HRES.out.2.1, HRES.out.2.2]; rfl, by rw [HRES.out.1]; exact HPOST.out⟩
theorem rput_c {w : World} {base rb : Nat} {v1 v2 v3 v4 : Value} {a a' : AA} (h : IsR w base rb v1 v2 v3 v4 a) (ok : AOk a) {v hd er : Int} (hp : a.put v = (a', hd, er)) :
    Calls Tryd.prog 56 #[.pointer (some ⟨rb, 0, none⟩), .int .i64 v] w fun e w' => e = .returned (.tuple #[.int .i64 hd, .int .i64 er]) ∧ RPost w w' base rb v1 v2 v3 v4 a' := by
  cases hf : a.fl with
  | nil => exact rput_nil h ok hf hp
  | cons k r =>
    obtain ⟨s, hs, -⟩ := ok.fl k (by rw [hf]; simp)
    unfold AA.put AA.pick at hp
    rw [hf] at hp
    simp only [] at hp
    rw [hs] at hp
    simp only [Option.map_some] at hp
    injection hp with q1 q2
    injection q2 with q2 q3
    subst q1 q2 q3
    exact rput_freed h ok hf hs v
end Go.Proofs.YtjlcchjcppkbjaaDoor

namespace Go.Proofs.YtjlcchjcppkbjaaDoor
open Go.RowKit

theorem Tryd.info2 : (Tryd.prog.info? 2).map (fun i => (i.zero, i.size, i.bytes)) = some (some (.int .i64 0), 1, 8) := by kernel_rfl
theorem Tryd.info4 : (Tryd.prog.info? 4).map (fun i => (i.zero, i.size, i.bytes)) = some (some (.bool false), 1, 1) := by kernel_rfl
theorem Tryd.info3 : (Tryd.prog.info? 3).map (fun i => (i.zero, i.size, i.bytes)) = some (some (.int .i64 0), 1, 8) := by kernel_rfl
theorem el50 : ElemOk Tryd.prog 56 2 1 8 := .mk' Tryd.underlying56 Tryd.info2 rfl (by decide)
theorem el62 : ElemOk Tryd.prog 134 4 1 1 := .mk' Tryd.underlying134 Tryd.info4 rfl (by decide)
theorem el73 : ElemOk Tryd.prog 135 3 1 8 := .mk' Tryd.underlying135 Tryd.info3 rfl (by decide)

theorem madeCells_one (z : Value) (n : Nat) : madeCells #[z] n = Array.replicate n z := by
  apply Array.ext
  · simp [madeCells]
  · intro i h1 h2
    simp [madeCells, Nat.mod_one]

theorem make_c {t e bytes : Nat} {z : Value} (hu : Tryd.prog.underlying t = some (.slice e)) (h : (Tryd.prog.info? e).map (fun i => (i.zero, i.size, i.bytes)) = some (some z, 1, bytes)) (hz : z.cells = #[z]) (hb : bytes ≤ 8) (n : Nat) (hn : n ≤ 4096) (w : World) :
    (Instr.makeSlice t (.int .i64 n) (.int .i64 n)).run Tryd.prog w = .ok (.slice (some ⟨w.heap.size, 0, none⟩) n n) (w.alloc (.cells (Array.replicate n z) e)) := by
  obtain ⟨i0, hi, hz0, hz1, hz2⟩ := info_parts h
  have q : bytes * n ≤ 8 * 4096 := Nat.mul_le_mul hb hn
  have := run_make (P := Tryd.prog) w t e i0 z hu hi hz0 .i64 .i64 n n (by omega) (by omega) (by rw [hz2, ← Int.natCast_mul]; omega) (by omega)
  rw [hz, hz1, Nat.mul_one, Int.toNat_natCast, madeCells_one] at this
  exact this

set_option maxHeartbeats 400000 in
theorem rnew_no (n : Int) (w : World) (h : n < 0 ∨ 4096 < n) :
    Calls Tryd.prog 54 #[.int .i64 n] w fun e w' => e = .returned (.tuple #[.pointer none, .int .i64 2]) ∧ w = w' := by
  rcases h with h | h
  · go_enter Tryd.func54, Tryd.ntmps54
    go_wp2
    go_ret2
    exact ⟨rfl, rfl⟩
  · have : ¬ n < 0 := by omega
    go_enter Tryd.func54, Tryd.ntmps54
    go_wp2
    go_ret2
    exact ⟨rfl, rfl⟩

/-- The reference's arena, new: its struct, and three rows. -/
def RNewPost (n : Nat) (W0 : World) (e : Ending) (W' : World) : Prop := ∃ rb ub tb vb, e = .returned (.tuple #[.pointer (some ⟨rb, 0, none⟩), .int .i64 0]) ∧ Kept (fun _ => False) W0 W' ∧
  W'.heap[rb]? = some (.cells #[.bool true, .slice (some ⟨ub, 0, none⟩) n n, .slice (some ⟨tb, 0, none⟩) n n, .slice (some ⟨vb, 0, none⟩) n n, .slice none 0 0] 137) ∧
  W'.heap[ub]? = some (.cells (Array.replicate n (.int .i64 0)) 2) ∧ W'.heap[tb]? = some (.cells (Array.replicate n (.bool false)) 4) ∧ W'.heap[vb]? = some (.cells (Array.replicate n (.int .i64 0)) 3) ∧
  W0.heap.size ≤ rb ∧ W0.heap.size ≤ ub ∧ W0.heap.size ≤ tb ∧ W0.heap.size ≤ vb

theorem heap_a4 (w : World) (o1 o2 o3 o4 : Obj) :
    ((((w.alloc o1).alloc o2).alloc o3).alloc o4).drew.heap[w.heap.size]? = some o1 ∧ ((((w.alloc o1).alloc o2).alloc o3).alloc o4).drew.heap[w.heap.size + 1]? = some o2 ∧
    ((((w.alloc o1).alloc o2).alloc o3).alloc o4).drew.heap[w.heap.size + 1 + 1]? = some o3 ∧ ((((w.alloc o1).alloc o2).alloc o3).alloc o4).drew.heap[w.heap.size + 1 + 1 + 1]? = some o4 := by
  show ((((w.heap.push o1).push o2).push o3).push o4)[w.heap.size]? = some o1 ∧ ((((w.heap.push o1).push o2).push o3).push o4)[w.heap.size + 1]? = some o2 ∧
    ((((w.heap.push o1).push o2).push o3).push o4)[w.heap.size + 1 + 1]? = some o3 ∧ ((((w.heap.push o1).push o2).push o3).push o4)[w.heap.size + 1 + 1 + 1]? = some o4
  simp only [Array.getElem?_push, Array.size_push]
  refine ⟨?_, ?_, ?_, ?_⟩
  · rw [if_neg (by omega), if_neg (by omega), if_neg (by omega), if_pos trivial]
  · rw [if_neg (by omega), if_neg (by omega), if_pos trivial]
  · rw [if_neg (by omega), if_pos trivial]
  · rw [if_pos trivial]

set_option maxRecDepth 100000 in
set_option maxHeartbeats 1000000 in
theorem rnew_yes (n : Nat) (w : World) (h : n ≤ 4096) :
    Calls Tryd.prog 54 #[.int .i64 n] w (RNewPost n w) := by
  have h1 : ¬ (n : Int) < 0 := by omega
  have h2 : (n : Int) ≤ 4096 := by omega
  have m1 := make_c Tryd.underlying56 Tryd.info2 rfl (by omega) n h
  have m2 := make_c Tryd.underlying134 Tryd.info4 rfl (by omega) n h
  have m3 := make_c Tryd.underlying135 Tryd.info3 rfl (by omega) n h
  generalize hA : Array.replicate n (Value.int .i64 0) = A at m1 m3
  generalize hB : Array.replicate n (Value.bool false) = B at m2
  have HA := Lib.hid hA
  have HB := Lib.hid hB
  clear hA hB
  go_enter Tryd.func54, Tryd.ntmps54
  go_wp2
  go_region
  all_goals go_wp2
  all_goals go_ret2
  all_goals
    refine ⟨_, _, _, _, rfl, (((((Kept.refl _ w).alloc _).alloc _).alloc _).alloc _).drew, (heap_a4 w _ _ _ _).2.2.2, ?_, ?_, ?_, by omega, by omega, by omega, by omega⟩
    all_goals first | (rw [HA.out]; first | exact (heap_a4 w _ _ _ _).1 | exact (heap_a4 w _ _ _ _).2.1 | exact (heap_a4 w _ _ _ _).2.2.1) | (rw [HB.out]; first | exact (heap_a4 w _ _ _ _).1 | exact (heap_a4 w _ _ _ _).2.1 | exact (heap_a4 w _ _ _ _).2.2.1)
end Go.Proofs.YtjlcchjcppkbjaaDoor

/- Copy and New of the document's arena. -/
namespace Go.Proofs.YtjlcchjcppkbjaaDoor
open Go.RowKit
theorem row_of_heap {w : World} {b e : Nat} {cs : Array Value} (h : w.heap[b]? = some (.cells cs e)) : RowAt w b cs.toList where
  cell := fun j v hv => by
    rw [Nat.zero_add]
    simp [World.cell?, h]
    simpa using hv
  fz := fun o => by simp [World.frozen?, h]
  lt := (Array.getElem?_eq_some_iff.1 h).1
theorem own_of_heap {w : World} {b e n base : Nat} {z : Value} (h : w.heap[b]? = some (.cells (Array.replicate n z) e)) (hn : n ≤ 4096) (hb : base ≤ b) : w.ownsRow base e 1 (.slice (some ⟨b, 0, none⟩) n n) n (List.replicate n z) :=
  ⟨by simp, .inr ⟨b, n, Array.replicate n z, rfl, hb, h, Nat.le_refl _, by unfold maxLen; omega, by simp, by simp⟩⟩
theorem rnew_r (n : Nat) (w : World) (hn : n ≤ 4096) : Calls Tryd.prog 54 #[.int .i64 n] w fun e w' => ∃ rb v1 v2 v3 v4, e = .returned (.tuple #[.pointer (some ⟨rb, 0, none⟩), .int .i64 0]) ∧ IsR w' w.heap.size rb v1 v2 v3 v4 (AA.empty n) ∧ Kept (fun _ => False) w w' := by
  refine (rnew_yes n w hn).mono ?_
  rintro e w' ⟨rb, ub, tb, vb, rfl, K, h0, h1, h2, h3, b0, b1, b2, b3⟩
  have d1 : ub ≠ rb := fun q => by subst q; rw [h0] at h1; simp at h1
  have d2 : ub ≠ tb := fun q => by subst q; rw [h2] at h1; simp at h1
  have d3 : ub ≠ vb := fun q => by subst q; rw [h3] at h1; simp at h1
  have d4 : tb ≠ rb := fun q => by subst q; rw [h0] at h2; simp at h2
  have d5 : tb ≠ vb := fun q => by subst q; rw [h3] at h2; simp at h2
  have d6 : vb ≠ rb := fun q => by subst q; rw [h0] at h3; simp at h3
  refine ⟨rb, _, _, _, _, rfl, ⟨row_of_heap h0, ?_, ?_, ?_, ⟨rfl, .inl ⟨rfl, rfl⟩⟩, ?_, ?_, ?_, ?_, b0⟩, K⟩
  · have := own_of_heap h1 hn b1
    simpa [AA.empty] using this
  · have := own_of_heap h2 hn b2
    simpa [AA.empty] using this
  · have := own_of_heap h3 hn b3
    simpa [AA.empty] using this
  · intro b q
    simp only [Value.ownBlock, Option.some.injEq] at q ⊢
    subst q
    exact ⟨d1, fun z => d2 z.symm, fun z => d3 z.symm, fun z => by cases z⟩
  · intro b q
    simp only [Value.ownBlock, Option.some.injEq] at q ⊢
    subst q
    exact ⟨d4, fun z => d5 z.symm, fun z => by cases z⟩
  · intro b q
    simp only [Value.ownBlock, Option.some.injEq] at q ⊢
    subst q
    exact ⟨d6, fun z => by cases z⟩
  · intro b q
    cases q
/-- append of an own row to nil as a step of a region that draws. -/
theorem step_nil {P : Program} {ops : Array Oper} {o : Oper} {a : Act} {K : Act → World → Prop} {Q : Exit → Act → World → Prop} {E0 : Prop} {t e bytes : Nat} (hgd : o.guard = none) (s x : Operand)
    (ho : o.op = .call { callee := .builtin .append, args := #[s, x], argTypes := #[t, t] }) (E : ElemOk P t e 1 bytes) (hby8 : bytes ≤ 8) {W : World} (base : Nat) (v : Value) (m : Nat) (xs : List Value) (hs : a.eval s = .slice none 0 0)
    (hx : a.eval x = v) (hown : W.ownsRow base e 1 v m xs) (h1 : ∀ u ∈ xs, u.oneCell' = true) (hm : m ≤ 4096)
    (h : ∀ p c w', w'.ownsRow W.heap.size e 1 (.slice p m c) m xs → Kept (fun _ => False) W w' → K (a.put o.dst (.slice p m c)) w') :
    if Region.wanted o (yielded ops a.tmps) = true then Oper.wp P o a W K Q else E0 := by
  have hw : Region.wanted o (yielded ops a.tmps) = true := by simp [Region.wanted, hgd]
  rw [if_pos hw]
  obtain ⟨i, z, hi, hz, hsz, hby, hzs⟩ := E.info
  rcases Nat.eq_zero_or_pos m with h0 | h0
  · subst h0
    have hxl := hown.1
    rw [Nat.zero_mul] at hxl
    obtain rfl := List.eq_nil_of_length_eq_zero hxl
    obtain ⟨p, c, rfl⟩ := own_v hown
    have hr := run_append_nothing W t t o.type e i E.under hi none 0 0 (Nat.le_refl _) (.slice p 0 c) (by rw [hsz]; exact src_none W E.under p c)
    unfold Oper.wp execOp
    simp only [ho, resolve, invoke, builtin, Sem.run_bind, Sem.run_pure, Result.andThen_ok, List.map_toArray, List.map_cons, List.map_nil, hs, hx, hr]
    exact h none 0 _ ⟨rfl, .inl ⟨rfl, rfl⟩⟩ (Kept.refl _ _)
  · obtain ⟨g, c, rfl, hg⟩ := ownsRow_pos hown h0
    have hcells : ∀ j u, xs[j]? = some u → W.cell? ((⟨g, 0, none⟩ : Addr).add j) = some u := fun j u hj => by
      have hjm : j < m := by have := (List.getElem?_eq_some_iff.1 hj).1; have := hown.1; omega
      rw [Addr.add_mid, Nat.zero_add, hown.cellAt j (by omega), hj]
    obtain ⟨v', w', hr, hown', hg', hor⟩ := run_append_new (P := P) W W.heap.size t o.type e i z 1 bytes E.under hi hz hsz hby hzs E.pos (.slice none 0 0) 0 [] ⟨rfl, .inl ⟨rfl, rfl⟩⟩ ⟨g, 0, none⟩ m c xs (by have := hown.1; omega) hcells h1 (by unfold maxLen; omega) (by have : (0 + m) * bytes ≤ 4096 * 8 := Nat.mul_le_mul (by omega) hby8; omega) (Nat.le_refl _) h0
    rw [Nat.zero_add, List.nil_append] at hown'
    obtain ⟨p', c', rfl⟩ := own_v hown'
    unfold Oper.wp execOp
    simp only [ho, resolve, invoke, builtin, Sem.run_bind, Sem.run_pure, Result.andThen_ok, List.map_toArray, List.map_cons, List.map_nil, hs, hx, hr]
    exact h _ _ _ hown' ((Kept.of_grown hg').mono (fun b _ q => by cases q))
end Go.Proofs.YtjlcchjcppkbjaaDoor

/- Copy of the document's arena: the walk. -/
namespace Go.Proofs.YtjlcchjcppkbjaaDoor
open Go.RowKit
structure CS (w wk : World) (B : Nat) (c1 c2 c3 c4 : Value) (l1 l2 l3 l4 : List Value) : Prop where
  hd : RowAt wk B [.bool true, c1, c2, c3, c4]
  r1 : wk.ownsRow w.heap.size 2 1 c1 l1.length l1
  r2 : wk.ownsRow w.heap.size 4 1 c2 l2.length l2
  r3 : wk.ownsRow w.heap.size 3 1 c3 l3.length l3
  r4 : wk.ownsRow w.heap.size 3 1 c4 l4.length l4
  a1 : ∀ b, c1.ownBlock = some b → b ≠ B ∧ ¬ c2.ownBlock = some b ∧ ¬ c3.ownBlock = some b ∧ ¬ c4.ownBlock = some b
  a2 : ∀ b, c2.ownBlock = some b → b ≠ B ∧ ¬ c3.ownBlock = some b ∧ ¬ c4.ownBlock = some b
  a3 : ∀ b, c3.ownBlock = some b → b ≠ B ∧ ¬ c4.ownBlock = some b
  a4 : ∀ b, c4.ownBlock = some b → b ≠ B
  kept : Kept (fun _ => False) w wk
  lo : w.heap.size ≤ B
variable {w wk w2 : World} {B : Nat} {c1 c2 c3 c4 v' : Value} {l1 l2 l3 l4 xs : List Value}
theorem CS.same (h : CS w wk B c1 c2 c3 c4 l1 l2 l3 l4) (K : Kept (fun _ => False) wk w2) : CS w w2 B c1 c2 c3 c4 l1 l2 l3 l4 :=
  ⟨RowAt.same h.hd K, ownsRow_kept h.r1 K (fun _ _ _ h => h), ownsRow_kept h.r2 K (fun _ _ _ h => h), ownsRow_kept h.r3 K (fun _ _ _ h => h), ownsRow_kept h.r4 K (fun _ _ _ h => h), h.a1, h.a2, h.a3, h.a4, h.kept.trans K (fun _ _ h => h), h.lo⟩
theorem CS.set1 (h : CS w wk B c1 c2 c3 c4 l1 l2 l3 l4) (K2 : Kept (fun _ => False) wk w2) (ho : w2.ownsRow wk.heap.size 2 1 v' xs.length xs) : CS w (w2.setCell ⟨B, 1, none⟩ v') B v' c2 c3 c4 xs l2 l3 l4 := by
  have K := kept_set w2 B 1 v'
  have ho2 : ∀ b, c2.ownBlock = some b → b < wk.heap.size := fun b q => (ownsRow_block h.r2 q).2
  have ho3 : ∀ b, c3.ownBlock = some b → b < wk.heap.size := fun b q => (ownsRow_block h.r3 q).2
  have ho4 : ∀ b, c4.ownBlock = some b → b < wk.heap.size := fun b q => (ownsRow_block h.r4 q).2
  have hn : ∀ b, v'.ownBlock = some b → wk.heap.size ≤ b := fun b q => (ownsRow_block ho q).1
  have hB := h.hd.lt
  refine ⟨by have := RowAt.set (RowAt.same h.hd K2) (j := 1) (by simp) v'; simpa using this, ownsRow_kept (ownsRow_base ho h.kept.size) K (fun b _ q r => by have := hn b q; omega),
    ownsRow_kept (ownsRow_kept h.r2 K2 (fun _ _ _ h => h)) K (fun b _ q r => (h.a2 b q).1 r),
    ownsRow_kept (ownsRow_kept h.r3 K2 (fun _ _ _ h => h)) K (fun b _ q r => (h.a3 b q).1 r),
    ownsRow_kept (ownsRow_kept h.r4 K2 (fun _ _ _ h => h)) K (fun b _ q r => h.a4 b q r), fun b q => ⟨fun z => by have := hn b q; omega, fun z => by have := hn b q; have := ho2 b z; omega, fun z => by have := hn b q; have := ho3 b z; omega, fun z => by have := hn b q; have := ho4 b z; omega⟩,
    fun b q => ⟨(h.a2 b q).1, (h.a2 b q).2.1, (h.a2 b q).2.2⟩,
    fun b q => ⟨(h.a3 b q).1, (h.a3 b q).2⟩,
    fun b q => (h.a4 b q), (h.kept.trans K2 (fun _ _ h => h)).trans K (fun b hb (q : b = B) => by have := h.lo; omega), h.lo⟩
theorem CS.set2 (h : CS w wk B c1 c2 c3 c4 l1 l2 l3 l4) (K2 : Kept (fun _ => False) wk w2) (ho : w2.ownsRow wk.heap.size 4 1 v' xs.length xs) : CS w (w2.setCell ⟨B, 2, none⟩ v') B c1 v' c3 c4 l1 xs l3 l4 := by
  have K := kept_set w2 B 2 v'
  have ho1 : ∀ b, c1.ownBlock = some b → b < wk.heap.size := fun b q => (ownsRow_block h.r1 q).2
  have ho3 : ∀ b, c3.ownBlock = some b → b < wk.heap.size := fun b q => (ownsRow_block h.r3 q).2
  have ho4 : ∀ b, c4.ownBlock = some b → b < wk.heap.size := fun b q => (ownsRow_block h.r4 q).2
  have hn : ∀ b, v'.ownBlock = some b → wk.heap.size ≤ b := fun b q => (ownsRow_block ho q).1
  have hB := h.hd.lt
  refine ⟨by have := RowAt.set (RowAt.same h.hd K2) (j := 2) (by simp) v'; simpa using this, ownsRow_kept (ownsRow_kept h.r1 K2 (fun _ _ _ h => h)) K (fun b _ q r => (h.a1 b q).1 r),
    ownsRow_kept (ownsRow_base ho h.kept.size) K (fun b _ q r => by have := hn b q; omega),
    ownsRow_kept (ownsRow_kept h.r3 K2 (fun _ _ _ h => h)) K (fun b _ q r => (h.a3 b q).1 r),
    ownsRow_kept (ownsRow_kept h.r4 K2 (fun _ _ _ h => h)) K (fun b _ q r => h.a4 b q r), fun b q => ⟨(h.a1 b q).1, fun z => by have := hn b z; have := ho1 b q; omega, (h.a1 b q).2.2.1, (h.a1 b q).2.2.2⟩,
    fun b q => ⟨fun z => by have := hn b q; omega, fun z => by have := hn b q; have := ho3 b z; omega, fun z => by have := hn b q; have := ho4 b z; omega⟩,
    fun b q => ⟨(h.a3 b q).1, (h.a3 b q).2⟩,
    fun b q => (h.a4 b q), (h.kept.trans K2 (fun _ _ h => h)).trans K (fun b hb (q : b = B) => by have := h.lo; omega), h.lo⟩
theorem CS.set3 (h : CS w wk B c1 c2 c3 c4 l1 l2 l3 l4) (K2 : Kept (fun _ => False) wk w2) (ho : w2.ownsRow wk.heap.size 3 1 v' xs.length xs) : CS w (w2.setCell ⟨B, 3, none⟩ v') B c1 c2 v' c4 l1 l2 xs l4 := by
  have K := kept_set w2 B 3 v'
  have ho1 : ∀ b, c1.ownBlock = some b → b < wk.heap.size := fun b q => (ownsRow_block h.r1 q).2
  have ho2 : ∀ b, c2.ownBlock = some b → b < wk.heap.size := fun b q => (ownsRow_block h.r2 q).2
  have ho4 : ∀ b, c4.ownBlock = some b → b < wk.heap.size := fun b q => (ownsRow_block h.r4 q).2
  have hn : ∀ b, v'.ownBlock = some b → wk.heap.size ≤ b := fun b q => (ownsRow_block ho q).1
  have hB := h.hd.lt
  refine ⟨by have := RowAt.set (RowAt.same h.hd K2) (j := 3) (by simp) v'; simpa using this, ownsRow_kept (ownsRow_kept h.r1 K2 (fun _ _ _ h => h)) K (fun b _ q r => (h.a1 b q).1 r),
    ownsRow_kept (ownsRow_kept h.r2 K2 (fun _ _ _ h => h)) K (fun b _ q r => (h.a2 b q).1 r),
    ownsRow_kept (ownsRow_base ho h.kept.size) K (fun b _ q r => by have := hn b q; omega),
    ownsRow_kept (ownsRow_kept h.r4 K2 (fun _ _ _ h => h)) K (fun b _ q r => h.a4 b q r), fun b q => ⟨(h.a1 b q).1, (h.a1 b q).2.1, fun z => by have := hn b z; have := ho1 b q; omega, (h.a1 b q).2.2.2⟩,
    fun b q => ⟨(h.a2 b q).1, fun z => by have := hn b z; have := ho2 b q; omega, (h.a2 b q).2.2⟩,
    fun b q => ⟨fun z => by have := hn b q; omega, fun z => by have := hn b q; have := ho4 b z; omega⟩,
    fun b q => (h.a4 b q), (h.kept.trans K2 (fun _ _ h => h)).trans K (fun b hb (q : b = B) => by have := h.lo; omega), h.lo⟩
theorem CS.set4 (h : CS w wk B c1 c2 c3 c4 l1 l2 l3 l4) (K2 : Kept (fun _ => False) wk w2) (ho : w2.ownsRow wk.heap.size 3 1 v' xs.length xs) : CS w (w2.setCell ⟨B, 4, none⟩ v') B c1 c2 c3 v' l1 l2 l3 xs := by
  have K := kept_set w2 B 4 v'
  have ho1 : ∀ b, c1.ownBlock = some b → b < wk.heap.size := fun b q => (ownsRow_block h.r1 q).2
  have ho2 : ∀ b, c2.ownBlock = some b → b < wk.heap.size := fun b q => (ownsRow_block h.r2 q).2
  have ho3 : ∀ b, c3.ownBlock = some b → b < wk.heap.size := fun b q => (ownsRow_block h.r3 q).2
  have hn : ∀ b, v'.ownBlock = some b → wk.heap.size ≤ b := fun b q => (ownsRow_block ho q).1
  have hB := h.hd.lt
  refine ⟨by have := RowAt.set (RowAt.same h.hd K2) (j := 4) (by simp) v'; simpa using this, ownsRow_kept (ownsRow_kept h.r1 K2 (fun _ _ _ h => h)) K (fun b _ q r => (h.a1 b q).1 r),
    ownsRow_kept (ownsRow_kept h.r2 K2 (fun _ _ _ h => h)) K (fun b _ q r => (h.a2 b q).1 r),
    ownsRow_kept (ownsRow_kept h.r3 K2 (fun _ _ _ h => h)) K (fun b _ q r => (h.a3 b q).1 r),
    ownsRow_kept (ownsRow_base ho h.kept.size) K (fun b _ q r => by have := hn b q; omega), fun b q => ⟨(h.a1 b q).1, (h.a1 b q).2.1, (h.a1 b q).2.2.1, fun z => by have := hn b z; have := ho1 b q; omega⟩,
    fun b q => ⟨(h.a2 b q).1, (h.a2 b q).2.1, fun z => by have := hn b z; have := ho2 b q; omega⟩,
    fun b q => ⟨(h.a3 b q).1, fun z => by have := hn b z; have := ho3 b q; omega⟩,
    fun b q => (fun z => by have := hn b q; omega), (h.kept.trans K2 (fun _ _ h => h)).trans K (fun b hb (q : b = B) => by have := h.lo; omega), h.lo⟩
set_option maxHeartbeats 8000000 in
theorem rcopy_c {w : World} {base rb : Nat} {v1 v2 v3 v4 : Value} {a : AA} (h : IsR w base rb v1 v2 v3 v4 a) (ok : AOk a) : Calls Tryd.prog 58 #[.pointer (some ⟨rb, 0, none⟩)] w fun e w' => ∃ rb' u1 u2 u3 u4, e = .returned (.pointer (some ⟨rb', 0, none⟩)) ∧ IsR w' w.heap.size rb' u1 u2 u3 u4 a ∧ Kept (fun _ => False) w w' := by
  have HI := Lib.hid h
  have hl := ok.len
  have hfl := ok.fll
  have C0 : CS w (w.alloc (.cells #[.bool true, .slice none 0 0, .slice none 0 0, .slice none 0 0, .slice none 0 0] 137)) w.heap.size (.slice none 0 0) (.slice none 0 0) (.slice none 0 0) (.slice none 0 0) [] [] [] [] :=
    ⟨RowAt.new w 137 #[.bool true, .slice none 0 0, .slice none 0 0, .slice none 0 0, .slice none 0 0], ⟨rfl, .inl ⟨rfl, rfl⟩⟩, ⟨rfl, .inl ⟨rfl, rfl⟩⟩, ⟨rfl, .inl ⟨rfl, rfl⟩⟩, ⟨rfl, .inl ⟨rfl, rfl⟩⟩, (fun b q => by cases q), (fun b q => by cases q), (fun b q => by cases q), (fun b q => by cases q), (Kept.refl _ _).alloc _, Nat.le_refl _⟩
  have HC0 := Lib.hid C0
  clear C0 ok h
  go_enter Tryd.func58, Tryd.ntmps58
  go_wp2_with (go_at_call 71; refine (rmade_c HI.out).mono ?_; rintro e w' ⟨rfl, rfl⟩)
  go_upto_region 4 with fail
  generalize w.alloc (.cells #[.bool true, .slice none 0 0, .slice none 0 0, .slice none 0 0, .slice none 0 0] 137) = wx at HC0 ⊢
  have HBL := Lib.hid HC0.out.lo
  obtain ⟨B, hB⟩ : ∃ B, w.heap.size = B := ⟨_, rfl⟩
  rw [hB] at HC0 ⊢
  have HC := Lib.hid HC0.out
  have hi := HI.out.same HC.out.kept
  have x1 := hi.hd.get (j := 1) rfl
  have xl := hi.hd.lt
  have b1 := HC.out.hd.get (j := 1) rfl
  have bl := HC.out.hd.lt
  have bf := HC.out.hd.fz 1
  have HUS : Hid (∀ W, Kept (fun _ => False) wx W → W.ownsRow base 2 1 v1 a.sl.length (a.sl.map fun s => Value.int .i64 s.use)) := Lib.hid fun W K => ownsRow_kept hi.uses K (fun _ _ _ h => h)
  have HON : Hid (∀ u ∈ (a.sl.map fun s => Value.int .i64 s.use), u.oneCell' = true) := Lib.hid fun u hu => by obtain ⟨y, -, rfl⟩ := List.mem_map.1 hu; rfl
  have HBW : Hid (∀ W, Kept (fun _ => False) wx W → W.cell? ⟨B, 1, none⟩ = some (.slice none 0 0) ∧ W.frozen? ⟨B, 1, none⟩ = false ∧ B < W.heap.size) := Lib.hid fun W K => ⟨(RowAt.same HC.out.hd K).get (j := 1) rfl, (RowAt.same HC.out.hd K).fz 1, (RowAt.same HC.out.hd K).lt⟩
  clear hi
  go_cut [] from 9 to 20 (fun wy => ∃ u1, CS w wy B u1 (.slice none 0 0) (.slice none 0 0) (.slice none 0 0) (a.sl.map fun s => Value.int .i64 s.use) [] [] [])
  case first =>
    go_region_law (refine step_nil rfl (.tmp 13) (.tmp 17) rfl el50 (by decide) base v1 a.sl.length (a.sl.map fun s => Value.int .i64 s.use) rfl rfl (HUS.out _ (by repeat (first | exact Kept.refl _ _ | refine Kept.alloc ?_ _ | refine Kept.drew ?_))) HON.out (by omega) ?_; intro pn cn wn on kn; have hkn : Kept (fun _ => False) wx wn := Kept.trans (by repeat (first | exact Kept.refl _ _ | refine Kept.alloc ?_ _ | refine Kept.drew ?_)) kn (fun _ _ h => h); obtain ⟨n1, n2, n3⟩ := HBW.out wn hkn; have HCN := Lib.hid (HC.out.set1 hkn (xs := (a.sl.map fun s => Value.int .i64 s.use)) (by first | (rw [List.length_map]; exact on) | (rw [List.length_map, List.length_reverse]; exact on))); clear on kn hkn)
    all_goals
      go_wp2_with fail
      go_meet
      exact ⟨_, HCN.out.same (by repeat (first | exact Kept.refl _ _ | refine Kept.alloc ?_ _ | refine Kept.drew ?_))⟩
  case rest =>
    obtain ⟨u1, hc1⟩ := hcut
    have HC := Lib.hid hc1
    clear hc1 x1 xl b1 bl bf HUS HON HBW
    obtain ⟨wx, hwx⟩ : ∃ wx : World, wx = wc := ⟨_, rfl⟩
    rw [← hwx] at HC ⊢
    clear hwx
    go_upto_region 5 with fail
    have hi := HI.out.same HC.out.kept
    have x1 := hi.hd.get (j := 2) rfl
    have xl := hi.hd.lt
    have b1 := HC.out.hd.get (j := 2) rfl
    have bl := HC.out.hd.lt
    have bf := HC.out.hd.fz 2
    have HUS : Hid (∀ W, Kept (fun _ => False) wx W → W.ownsRow base 4 1 v2 a.sl.length (a.sl.map fun s => Value.bool s.taken)) := Lib.hid fun W K => ownsRow_kept hi.tks K (fun _ _ _ h => h)
    have HON : Hid (∀ u ∈ (a.sl.map fun s => Value.bool s.taken), u.oneCell' = true) := Lib.hid fun u hu => by obtain ⟨y, -, rfl⟩ := List.mem_map.1 hu; rfl
    have HBW : Hid (∀ W, Kept (fun _ => False) wx W → W.cell? ⟨B, 2, none⟩ = some (.slice none 0 0) ∧ W.frozen? ⟨B, 2, none⟩ = false ∧ B < W.heap.size) := Lib.hid fun W K => ⟨(RowAt.same HC.out.hd K).get (j := 2) rfl, (RowAt.same HC.out.hd K).fz 2, (RowAt.same HC.out.hd K).lt⟩
    clear hi
    go_cut [] from 21 to 32 (fun wy => ∃ u2, CS w wy B u1 u2 (.slice none 0 0) (.slice none 0 0) (a.sl.map fun s => Value.int .i64 s.use) (a.sl.map fun s => Value.bool s.taken) [] [])
    case first =>
      go_region_law (refine step_nil rfl (.tmp 25) (.tmp 29) rfl el62 (by decide) base v2 a.sl.length (a.sl.map fun s => Value.bool s.taken) rfl rfl (HUS.out _ (by repeat (first | exact Kept.refl _ _ | refine Kept.alloc ?_ _ | refine Kept.drew ?_))) HON.out (by omega) ?_; intro pn cn wn on kn; have hkn : Kept (fun _ => False) wx wn := Kept.trans (by repeat (first | exact Kept.refl _ _ | refine Kept.alloc ?_ _ | refine Kept.drew ?_)) kn (fun _ _ h => h); obtain ⟨n1, n2, n3⟩ := HBW.out wn hkn; have HCN := Lib.hid (HC.out.set2 hkn (xs := (a.sl.map fun s => Value.bool s.taken)) (by first | (rw [List.length_map]; exact on) | (rw [List.length_map, List.length_reverse]; exact on))); clear on kn hkn)
      all_goals
        go_wp2_with fail
        go_meet
        exact ⟨_, HCN.out.same (by repeat (first | exact Kept.refl _ _ | refine Kept.alloc ?_ _ | refine Kept.drew ?_))⟩
    case rest =>
      obtain ⟨u2, hc2⟩ := hcut
      have HC := Lib.hid hc2
      clear hc2 x1 xl b1 bl bf HUS HON HBW
      obtain ⟨wx, hwx⟩ : ∃ wx : World, wx = wc := ⟨_, rfl⟩
      rw [← hwx] at HC ⊢
      clear hwx
      go_upto_region 6 with fail
      have hi := HI.out.same HC.out.kept
      have x1 := hi.hd.get (j := 3) rfl
      have xl := hi.hd.lt
      have b1 := HC.out.hd.get (j := 3) rfl
      have bl := HC.out.hd.lt
      have bf := HC.out.hd.fz 3
      have HUS : Hid (∀ W, Kept (fun _ => False) wx W → W.ownsRow base 3 1 v3 a.sl.length (a.sl.map fun s => Value.int .i64 s.v)) := Lib.hid fun W K => ownsRow_kept hi.vs K (fun _ _ _ h => h)
      have HON : Hid (∀ u ∈ (a.sl.map fun s => Value.int .i64 s.v), u.oneCell' = true) := Lib.hid fun u hu => by obtain ⟨y, -, rfl⟩ := List.mem_map.1 hu; rfl
      have HBW : Hid (∀ W, Kept (fun _ => False) wx W → W.cell? ⟨B, 3, none⟩ = some (.slice none 0 0) ∧ W.frozen? ⟨B, 3, none⟩ = false ∧ B < W.heap.size) := Lib.hid fun W K => ⟨(RowAt.same HC.out.hd K).get (j := 3) rfl, (RowAt.same HC.out.hd K).fz 3, (RowAt.same HC.out.hd K).lt⟩
      clear hi
      go_cut [] from 33 to 44 (fun wy => ∃ u3, CS w wy B u1 u2 u3 (.slice none 0 0) (a.sl.map fun s => Value.int .i64 s.use) (a.sl.map fun s => Value.bool s.taken) (a.sl.map fun s => Value.int .i64 s.v) [])
      case first =>
        go_region_law (refine step_nil rfl (.tmp 37) (.tmp 41) rfl el73 (by decide) base v3 a.sl.length (a.sl.map fun s => Value.int .i64 s.v) rfl rfl (HUS.out _ (by repeat (first | exact Kept.refl _ _ | refine Kept.alloc ?_ _ | refine Kept.drew ?_))) HON.out (by omega) ?_; intro pn cn wn on kn; have hkn : Kept (fun _ => False) wx wn := Kept.trans (by repeat (first | exact Kept.refl _ _ | refine Kept.alloc ?_ _ | refine Kept.drew ?_)) kn (fun _ _ h => h); obtain ⟨n1, n2, n3⟩ := HBW.out wn hkn; have HCN := Lib.hid (HC.out.set3 hkn (xs := (a.sl.map fun s => Value.int .i64 s.v)) (by first | (rw [List.length_map]; exact on) | (rw [List.length_map, List.length_reverse]; exact on))); clear on kn hkn)
        all_goals
          go_wp2_with fail
          go_meet
          exact ⟨_, HCN.out.same (by repeat (first | exact Kept.refl _ _ | refine Kept.alloc ?_ _ | refine Kept.drew ?_))⟩
      case rest =>
        obtain ⟨u3, hc3⟩ := hcut
        have HC := Lib.hid hc3
        clear hc3 x1 xl b1 bl bf HUS HON HBW
        obtain ⟨wx, hwx⟩ : ∃ wx : World, wx = wc := ⟨_, rfl⟩
        rw [← hwx] at HC ⊢
        clear hwx
        go_upto_region 7 with fail
        have hi := HI.out.same HC.out.kept
        have x1 := hi.hd.get (j := 4) rfl
        have xl := hi.hd.lt
        have b1 := HC.out.hd.get (j := 4) rfl
        have bl := HC.out.hd.lt
        have bf := HC.out.hd.fz 4
        have HUS : Hid (∀ W, Kept (fun _ => False) wx W → W.ownsRow base 3 1 v4 a.fl.length (a.fl.reverse.map fun (k : Nat) => Value.int .i64 k)) := Lib.hid fun W K => ownsRow_kept hi.frd K (fun _ _ _ h => h)
        have HON : Hid (∀ u ∈ (a.fl.reverse.map fun (k : Nat) => Value.int .i64 k), u.oneCell' = true) := Lib.hid fun u hu => by obtain ⟨y, -, rfl⟩ := List.mem_map.1 hu; rfl
        have HBW : Hid (∀ W, Kept (fun _ => False) wx W → W.cell? ⟨B, 4, none⟩ = some (.slice none 0 0) ∧ W.frozen? ⟨B, 4, none⟩ = false ∧ B < W.heap.size) := Lib.hid fun W K => ⟨(RowAt.same HC.out.hd K).get (j := 4) rfl, (RowAt.same HC.out.hd K).fz 4, (RowAt.same HC.out.hd K).lt⟩
        clear hi
        go_cut [] from 45 to 56 (fun wy => ∃ u4, CS w wy B u1 u2 u3 u4 (a.sl.map fun s => Value.int .i64 s.use) (a.sl.map fun s => Value.bool s.taken) (a.sl.map fun s => Value.int .i64 s.v) (a.fl.reverse.map fun (k : Nat) => Value.int .i64 k))
        case first =>
          go_region_law (refine step_nil rfl (.tmp 49) (.tmp 53) rfl el73 (by decide) base v4 a.fl.length (a.fl.reverse.map fun (k : Nat) => Value.int .i64 k) rfl rfl (HUS.out _ (by repeat (first | exact Kept.refl _ _ | refine Kept.alloc ?_ _ | refine Kept.drew ?_))) HON.out (by omega) ?_; intro pn cn wn on kn; have hkn : Kept (fun _ => False) wx wn := Kept.trans (by repeat (first | exact Kept.refl _ _ | refine Kept.alloc ?_ _ | refine Kept.drew ?_)) kn (fun _ _ h => h); obtain ⟨n1, n2, n3⟩ := HBW.out wn hkn; have HCN := Lib.hid (HC.out.set4 hkn (xs := (a.fl.reverse.map fun (k : Nat) => Value.int .i64 k)) (by first | (rw [List.length_map]; exact on) | (rw [List.length_map, List.length_reverse]; exact on))); clear on kn hkn)
          all_goals
            go_wp2_with fail
            go_meet
            exact ⟨_, HCN.out.same (by repeat (first | exact Kept.refl _ _ | refine Kept.alloc ?_ _ | refine Kept.drew ?_))⟩
        case rest =>
          obtain ⟨u4, hc4⟩ := hcut
          have HB := Lib.hid hB
          have HFIN : Hid (∃ rb' u1 u2 u3 u4, Ending.returned (Value.pointer (some ⟨B, 0, none⟩)) = .returned (.pointer (some ⟨rb', 0, none⟩)) ∧ IsR wc w.heap.size rb' u1 u2 u3 u4 a ∧ Kept (fun _ => False) w wc) := Lib.hid ⟨B, u1, u2, u3, u4, rfl, ⟨hc4.hd, by have := hc4.r1; simpa using this, by have := hc4.r2; simpa using this, by have := hc4.r3; simpa using this, by have := hc4.r4; simpa using this, hc4.a1, hc4.a2, hc4.a3, hc4.a4, hc4.lo⟩, hc4.kept⟩
          clear hc4
          go_wp2
          go_ret
          exact HFIN.out
end Go.Proofs.YtjlcchjcppkbjaaDoor
