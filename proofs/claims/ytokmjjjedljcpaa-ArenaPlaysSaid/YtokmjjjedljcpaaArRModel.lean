/- ArRModel: texts for the statements of this seat: contracts of functions, walks, plain laws. Conditions: none. -/
import Derived.Test.YtokmjjjedljcpaaArA
import Derived.Test.YtokmjjjedljcpaaArRPlain
import Derived.Test.YtokmjjjedljcpaaGeRow
import Derived.Test.YtokmjjjedljcpaaGeInts
import Derived.Test.YtokmjjjedljcpaaGeApp3
import Derived.Test.YtokmjjjedljcpaaGeRO
import Derived.Test.YtokmjjjedljcpaaGeAppN
set_option linter.all false
/- The document's arena in memory; contracts of the functions that read it. -/
namespace Go.Proofs.Ytokmjjjedljcpaa
open Go.RowKit

structure IsR (w : World) (base rb : Nat) (v1 v2 v3 v4 : Value) (a : AA) : Prop where
  hd : RowAt w rb [.bool true, v1, v2, v3, v4]
  uses : w.ownsRow base 2 1 v1 a.sl.length (a.sl.map fun s => .int .i64 s.use)
  tks : w.ownsRow base 4 1 v2 a.sl.length (a.sl.map fun s => .bool s.taken)
  vs : w.ownsRow base 3 1 v3 a.sl.length (a.sl.map fun s => .int .i64 s.v)
  frd : w.ownsRow base 3 1 v4 a.fl.length (a.fl.reverse.map fun (k : Nat) => .int .i64 k)
  a1 : ∀ b, v1.ownBlock = some b → b ≠ rb ∧ ¬ v2.ownBlock = some b ∧ ¬ v3.ownBlock = some b ∧ ¬ v4.ownBlock = some b
  a2 : ∀ b, v2.ownBlock = some b → b ≠ rb ∧ ¬ v3.ownBlock = some b ∧ ¬ v4.ownBlock = some b
  a3 : ∀ b, v3.ownBlock = some b → b ≠ rb ∧ ¬ v4.ownBlock = some b
  a4 : ∀ b, v4.ownBlock = some b → b ≠ rb
  lo : base ≤ rb
/-- The blocks of an arena of the document. -/
def FR (rb : Nat) (v1 v2 v3 v4 : Value) (b : Nat) : Prop := b = rb ∨ v1.ownBlock = some b ∨ v2.ownBlock = some b ∨ v3.ownBlock = some b ∨ v4.ownBlock = some b
theorem IsR.kept {S : Nat → Prop} {w w' : World} {base rb : Nat} {v1 v2 v3 v4 : Value} {a : AA} (h : IsR w base rb v1 v2 v3 v4 a) (K : Kept S w w') (hS : ∀ b, FR rb v1 v2 v3 v4 b → ¬ S b) : IsR w' base rb v1 v2 v3 v4 a :=
  ⟨RowAt.kept h.hd K (hS _ (.inl rfl)), ownsRow_kept h.uses K (fun b _ q => hS b (.inr (.inl q))), ownsRow_kept h.tks K (fun b _ q => hS b (.inr (.inr (.inl q)))), ownsRow_kept h.vs K (fun b _ q => hS b (.inr (.inr (.inr (.inl q))))), ownsRow_kept h.frd K (fun b _ q => hS b (.inr (.inr (.inr (.inr q))))), h.a1, h.a2, h.a3, h.a4, h.lo⟩
theorem IsR.same {w w' : World} {base rb : Nat} {v1 v2 v3 v4 : Value} {a : AA} (h : IsR w base rb v1 v2 v3 v4 a) (K : Kept (fun _ => False) w w') : IsR w' base rb v1 v2 v3 v4 a := h.kept K (fun _ _ h => h)
theorem own_v {w : World} {base e n : Nat} {v : Value} {xs : List Value} (h : w.ownsRow base e 1 v n xs) : ∃ p c, v = .slice p n c := by
  rcases h.2 with ⟨q, h0⟩ | ⟨g, cap, cur, q, -⟩
  · exact ⟨none, 0, by rw [q, h0]⟩
  · exact ⟨_, cap, q⟩
theorem own_cell {w : World} {base e n : Nat} {v : Value} {xs : List Value} (h : w.ownsRow base e 1 v n xs) {k : Nat} {u : Value} (hk : xs[k]? = some u) : ∃ g c, v = .slice (some ⟨g, 0, none⟩) n c ∧ n ≤ c ∧ w.cell? ⟨g, k, none⟩ = some u ∧ w.frozen? ⟨g, k, none⟩ = false ∧ k < n ∧ g < w.heap.size ∧ base ≤ g := by
  have hlen := h.1
  have hkn : k < n := by have := (List.getElem?_eq_some_iff.1 hk).1; omega
  rcases h.2 with ⟨q, h0⟩ | ⟨g, cap, cur, q, h1, h2, h3, h4⟩
  · omega
  · subst q
    refine ⟨g, cap, rfl, h3, ?_, ownsRow_frozen h k, hkn, (Array.getElem?_eq_some_iff.1 h2).1, h1⟩
    rw [h.cellAt k (by omega), hk]
theorem rmade_c {w : World} {base rb : Nat} {v1 v2 v3 v4 : Value} {a : AA} (h : IsR w base rb v1 v2 v3 v4 a) : Calls Try.prog 32 #[.pointer (some ⟨rb, 0, none⟩)] w fun e w' => e = .returned (.bool true) ∧ w = w' := by
  have c0 := h.hd.get (j := 0) rfl
  have cl := h.hd.lt
  clear h
  go_enter Try.func32, Try.ntmps32
  go_wp2
  go_ret
  exact ⟨rfl, rfl⟩
theorem rhandle_c {w : World} {base rb : Nat} {v1 v2 v3 v4 : Value} {a : AA} (h : IsR w base rb v1 v2 v3 v4 a) (ok : AOk a) {k : Nat} {s : U} (hs : a.sl[k]? = some s) : Calls Try.prog 33 #[.pointer (some ⟨rb, 0, none⟩), .int .i64 k] w fun e w' => e = .returned (.int .i64 (4096 * s.use + k)) ∧ w = w' := by
  obtain ⟨g, c, rfl, hc, u0, -, hk, -⟩ := own_cell h.uses (k := k) (u := .int .i64 s.use) (by rw [List.getElem?_map, hs]; rfl)
  have c1 := h.hd.get (j := 1) rfl
  have cl := h.hd.lt
  have hu := ok.use k s hs
  have hl := ok.len
  have i1 : (0 : Int) ≤ (k : Int) := by omega
  have i2 : (k : Int) < (a.sl.length : Int) := by omega
  have w1 : wrap64 (4096 * s.use) = 4096 * s.use := IntWalk.wrap64_in _ (by omega)
  have w2 : wrap64 (4096 * s.use + (k : Int)) = 4096 * s.use + (k : Int) := IntWalk.wrap64_in _ (by omega)
  clear h
  go_enter Try.func33, Try.ntmps33
  go_wp2
  go_ret
  exact ⟨rfl, rfl⟩
set_option maxHeartbeats 1000000 in
theorem rfind_c {w : World} {base rb : Nat} {v1 v2 v3 v4 : Value} {a : AA} (h : IsR w base rb v1 v2 v3 v4 a) (ok : AOk a) (hh : Int) : Calls Try.prog 34 #[.pointer (some ⟨rb, 0, none⟩), .int .i64 hh] w fun e w' => e = .returned (.int .i64 (a.at_ hh)) ∧ Kept (fun _ => False) w w' := by
  have HI := Lib.hid h
  have HO := Lib.hid ok
  obtain ⟨p1, q1, hv1⟩ := own_v h.uses
  obtain ⟨p2, q2, hv2⟩ := own_v h.tks
  subst hv1 hv2
  obtain ⟨n, hn⟩ : ∃ n, a.sl.length = n := ⟨_, rfl⟩
  have HN := Lib.hid hn
  have hnl : n ≤ 4096 := by rw [← hn]; exact ok.len
  rw [hn] at HI
  clear h ok hn
  go_enter Try.func34, Try.ntmps34
  go_wp2
  go_loopw [5] (fun i wr => ∃ j : Nat, j ≤ n ∧ i = .int .i64 j ∧ (∀ (k : Nat) (s : U), k < j → a.sl[k]? = some s → ¬ (s.taken = true ∧ 4096 * s.use + k = hh)) ∧ wr = w) (fun i _ => match i with | .int _ x => (n - x).toNat | _ => 0)
  case atStart => exact ⟨0, Nat.zero_le _, rfl, fun k s hk => by omega, rfl⟩
  case round =>
    obtain ⟨j, hj, rfl, hno, hw⟩ := hrel
    have hw2 := hw.symm
    clear hw
    subst hw2
    have HNO := Lib.hid hno
    have c1 := HI.out.hd.get (j := 1) rfl
    have c2 := HI.out.hd.get (j := 2) rfl
    have cl := HI.out.hd.lt
    clear hno
    by_cases hlt : j < n
    · obtain ⟨s, hs⟩ : ∃ s, a.sl[j]? = some s := ⟨_, List.getElem?_eq_getElem (by rw [HN.out]; exact hlt)⟩
      obtain ⟨g2, cc2, hv, hc2, t0, -, -, -⟩ := own_cell HI.out.tks (k := j) (u := .bool s.taken) (by rw [List.getElem?_map, hs]; rfl)
      injection hv with e1 e2 e3
      subst e1 e3
      have HH := Lib.hid (rhandle_c HI.out HO.out hs)
      have HS := Lib.hid hs
      have i1 : (0 : Int) ≤ (j : Int) := by omega
      have i2 : (j : Int) < (n : Int) := by omega
      clear hs e2
      cases ht : s.taken with
      | true =>
        have HT := Lib.hid ht
        rw [ht] at t0
        clear ht
        by_cases he : 4096 * s.use + (j : Int) = hh
        · have HA : Hid (a.at_ hh = (j : Int)) := Lib.hid (at_hit HO.out HS.out HT.out he)
          have b1 : (4096 * s.use + (j : Int) == hh) = true := by simpa using he
          clear he
          go_wp2_with (go_at_call 32; refine (rmade_c HI.out).mono ?_; rintro e w' ⟨rfl, rfl⟩)
          go_wp2_with (go_at_call 33; refine HH.out.mono ?_; rintro e w' ⟨rfl, rfl⟩)
          go_ret
          exact ⟨by rw [HA.out]; rfl, Kept.refl _ _⟩
        · have b1 : (4096 * s.use + (j : Int) == hh) = false := by simpa using he
          have HNX : Hid (∀ (k : Nat) (t : U), k < j + 1 → a.sl[k]? = some t → ¬ (t.taken = true ∧ 4096 * t.use + k = hh)) := Lib.hid fun k t hk hkt => by
            by_cases e : k = j
            · subst e
              rw [HS.out] at hkt
              injection hkt with hkt
              subst hkt
              exact fun q => he q.2
            · exact HNO.out k t (by omega) hkt
          clear he
          go_wp2_with (go_at_call 32; refine (rmade_c HI.out).mono ?_; rintro e w' ⟨rfl, rfl⟩)
          go_wp2_with (go_at_call 33; refine HH.out.mono ?_; rintro e w' ⟨rfl, rfl⟩)
          go_roundw
          case rel => exact ⟨j + 1, by omega, by go_num, HNX.out, trivial⟩
          case measure => first | (simp; done) | (simp; omega)
      | false =>
        have HNX : Hid (∀ (k : Nat) (t : U), k < j + 1 → a.sl[k]? = some t → ¬ (t.taken = true ∧ 4096 * t.use + k = hh)) := Lib.hid fun k t hk hkt => by
          by_cases e : k = j
          · subst e
            rw [HS.out] at hkt
            injection hkt with hkt
            subst hkt
            rw [ht]
            exact fun q => by cases q.1
          · exact HNO.out k t (by omega) hkt
        rw [ht] at t0
        clear ht
        go_wp2_with (go_at_call 32; refine (rmade_c HI.out).mono ?_; rintro e w' ⟨rfl, rfl⟩)
        go_roundw
        case rel => exact ⟨j + 1, by omega, by go_num, HNX.out, trivial⟩
        case measure => first | (simp; done) | (simp; omega)
    · obtain rfl : j = n := by omega
      have HA : Hid (a.at_ hh = -1) := Lib.hid (at_miss fun k s hs => HNO.out k s (by have := (List.getElem?_eq_some_iff.1 hs).1; rw [HN.out] at this; exact this) hs)
      go_wp2_with (go_at_call 32; refine (rmade_c HI.out).mono ?_; rintro e w' ⟨rfl, rfl⟩)
      go_ret
      exact ⟨by rw [HA.out]; rfl, Kept.refl _ _⟩
end Go.Proofs.Ytokmjjjedljcpaa
