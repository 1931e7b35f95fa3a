/- WhTi: texts for the statements of this seat: contracts of functions, walks, plain laws. Conditions: none. -/
import Derived.Laws.BitsLemmas
import Derived.Test.YtjlcchjcppkbjaaDoorWhCb
import Derived.Test.YtjlcchjcppkbjaaDoorWhTzLay
set_option linter.all false
/- The table of math/bits, and TrailingZeros64. -/
namespace Go.Proofs.YtjlcchjcppkbjaaDoor
open Go.RowKit
/-- The table stands in its variable. -/
def Tab (w : World) : Prop := ∀ j, j < Lib.deBruijn64tab.length → w.cell? ⟨0, j, none⟩ = some (.int .u8 (Lib.deBruijn64tab.getD j 0))
theorem Tab.lt {w : World} (h : Tab w) : 0 < w.heap.size := World.block_lt_of_cell? _ _ (h 0 (by decide))
theorem Tab.kept {S : Nat → Prop} {w w' : World} (h : Tab w) (k : Kept S w w') (hS : ¬ S 0) : Tab w' := fun j hj => (k.cell (a := ⟨0, j, none⟩) h.lt hS).trans (h j hj)
theorem Tab.set {w : World} (h : Tab w) (a : Addr) (v : Value) (ha : a.block ≠ 0) : Tab (w.setCell a v) := fun j hj => (cell_set_blk w a ⟨0, j, none⟩ v (fun e => ha e.symm)).trans (h j hj)
theorem tz_c {w : World} (hT : Tab w) (x : Nat) (hx : x < 18446744073709551616) : Calls Tryd.prog 74 #[.int .u64 x] w fun e w' => e = .returned (.int .i64 (Lib.ctz 64 x)) ∧ w' = w :=
  Any7.bits_TrailingZeros64 Tryd.tz x hx w (fun _ => hT)
end Go.Proofs.YtjlcchjcppkbjaaDoor
/- index, valid, bits.Next. -/
namespace Go.Proofs.YtjlcchjcppkbjaaDoor
open Go.RowKit Go.Sort

theorem and63 (x : Int) (h0 : 0 ≤ x) (h1 : x < 9223372036854775808) : bits .and .i64 x 63 = x % 64 :=
  bits_mask .i64 63 (by decide) (fun n h0 h1 => by rw [IntKind.wrap_i64]; have e : (2 : Int) ^ 63 = 9223372036854775808 := by decide
                                                   rw [e] at h1; omega) 6 (by decide) x h0 (by have e : (2 : Int) ^ 63 = 9223372036854775808 := by decide
                                                                                               rw [e]; exact h1)
theorem ret_int' {k : IntKind} {a b : Int} (h : a = b) : Ending.returned (.int k a) = .returned (.int k b) := by rw [h]
theorem index_c (x : Int) (L : Nat) (hL : L ≤ 3) (h0 : 0 ≤ x) (h1 : x ≤ 4611686018427387905) (w : World) : Calls Tryd.prog 61 #[.int .i64 x, .int .i64 L] w fun e w' => e = .returned (.int .i64 (slt L x)) ∧ w' = w := by
  have hs := Lib.hid (slt_cast L x)
  match L, hL with
  | 0, _ =>
    go_enter Tryd.func61, Tryd.ntmps61
    go_wp2
    go_ret
    exact ⟨ret_int' (by rw [hs.out, and63 x h0 (by omega)]; show x % 64 = x / 1 % 64; omega), rfl⟩
  | 1, _ =>
    go_enter Tryd.func61, Tryd.ntmps61
    go_wp2
    go_ret
    exact ⟨ret_int' (by rw [hs.out, and63 _ (by omega) (by omega)]; rfl), rfl⟩
  | 2, _ =>
    go_enter Tryd.func61, Tryd.ntmps61
    go_wp2
    go_ret
    exact ⟨ret_int' (by rw [hs.out, and63 _ (by omega) (by omega)]; rfl), rfl⟩
  | 3, _ =>
    go_enter Tryd.func61, Tryd.ntmps61
    go_wp2
    go_ret
    exact ⟨ret_int' (by rw [hs.out, and63 _ (by omega) (by omega)]; rfl), rfl⟩

theorem cut_wrap (s f : Nat) (hs : s < 18446744073709551616) : IntKind.u64.wrap ((s : Int) / 2 ^ f * 2 ^ f) = ((s / 2 ^ f * 2 ^ f : Nat) : Int) := by
  have h := Nat.div_mul_le_self s (2 ^ f)
  have e : ((s : Int) / 2 ^ f * 2 ^ f) = ((s / 2 ^ f * 2 ^ f : Nat) : Int) := by push_cast; rfl
  rw [e, IntKind.wrap_u64]
  omega
theorem next_none {s f : Nat} (hs : s < 18446744073709551616) (hf : f ≤ 63) (h : ∀ j, f ≤ j → j < 64 → s.testBit j = false) (w : World) : Calls Tryd.prog 62 #[.int .u64 s, .int .i64 f] w fun e w' => e = .returned (.tuple #[.int .i64 0, .bool false]) ∧ w' = w := by
  have e := cut_none (by exact hs) h
  have hb : (IntKind.u64.wrap ((s : Int) / 2 ^ f * 2 ^ f) == 0) = true := by rw [cut_wrap s f hs, e]; rfl
  clear h e
  go_enter Tryd.func62, Tryd.ntmps62
  go_wp2_with fail
  go_ret2
  exact ⟨rfl, rfl⟩
theorem next_some {s f r : Nat} {w : World} (hT : Tab w) (hs : s < 18446744073709551616) (hr0 : f ≤ r) (hr1 : r < 64) (hr : s.testBit r = true) (hm : ∀ j, f ≤ j → j < r → s.testBit j = false) : Calls Tryd.prog 62 #[.int .u64 s, .int .i64 f] w fun e w' => e = .returned (.tuple #[.int .i64 r, .bool true]) ∧ w' = w := by
  have hf : f ≤ 63 := by omega
  obtain ⟨h1, h2, h3⟩ := cut_some (by exact hs) hr0 hr hm
  have hw := cut_wrap s f hs
  have hb : (IntKind.u64.wrap ((s : Int) / 2 ^ f * 2 ^ f) == 0) = false := by
    rw [hw]
    generalize s / 2 ^ f * 2 ^ f = t at h1
    simpa using h1
  have HC := Lib.hid (tz_c hT _ h2)
  rw [← hw, h3] at HC
  clear hm h1 h2 h3 hw hr hr0
  go_enter Tryd.func62, Tryd.ntmps62
  go_wp2_with (go_at_call 74; refine HC.out.mono ?_; rintro e w' ⟨rfl, rfl⟩)
  go_ret2
  exact ⟨rfl, rfl⟩
end Go.Proofs.YtjlcchjcppkbjaaDoor
