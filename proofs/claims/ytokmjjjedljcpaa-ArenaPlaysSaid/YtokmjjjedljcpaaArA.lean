/- ArA: texts for the statements of this seat: contracts of functions, walks, plain laws. Conditions: none. -/
import Derived.Test.YtokmjjjedljcpaaArC
import Derived.Test.YtokmjjjedljcpaaArAbs
set_option linter.all false
namespace Go.Proofs.Ytokmjjjedljcpaa
open Go.RowKit

/-- In the world w the blocks ab and sb hold an arena that stands for a. -/
def IsA (w : World) (ab sb cap : Nat) (a : AA) : Prop := ∃ A, IsAr w ab sb cap A ∧ Rep A a

theorem IsA.kept {S : Nat → Prop} {w w' : World} {ab sb cap : Nat} {a : AA} (I : IsA w ab sb cap a) (h : Kept S w w') (ha : ¬ S ab) (hs : ¬ S sb) : IsA w' ab sb cap a :=
  let ⟨A, i, r⟩ := I; ⟨A, i.kept h ha hs, r⟩
theorem IsA.lta {w : World} {ab sb cap : Nat} {a : AA} (I : IsA w ab sb cap a) : ab < w.heap.size := let ⟨_, i, _⟩ := I; i.lta
theorem IsA.lts {w : World} {ab sb cap : Nat} {a : AA} (I : IsA w ab sb cap a) : sb < w.heap.size := let ⟨_, i, _⟩ := I; i.lts

theorem new_a (n : Int) (w : World) (h0 : 0 ≤ n) (h : n ≤ 4096) :
    Calls Try.prog 10 #[.int .i64 n] w fun e w' => e = .returned (.tuple #[.pointer (some ⟨w.heap.size + 1, 0, none⟩), .int .i64 0]) ∧
      IsA w' (w.heap.size + 1) w.heap.size n.toNat (AA.empty n.toNat) ∧ Kept (fun _ => False) w w' := by
  obtain ⟨n, rfl⟩ := Int.eq_ofNat_of_zero_le h0
  rw [Int.toNat_natCast]
  refine (new_yes n w (by omega)).mono ?_
  rintro e w' ⟨rfl, i, k⟩
  exact ⟨rfl, ⟨_, i, Rep.empty (by omega)⟩, k⟩

theorem put_a {ab sb cap : Nat} {a a' : AA} {v h er : Int} {w : World} (I : IsA w ab sb cap a) (hp : a.put v = (a', h, er)) :
    Calls Try.prog 11 #[.pointer (some ⟨ab, 0, none⟩), .int .i64 v] w fun e w' => e = .returned (.tuple #[.int .i64 h, .int .i64 er]) ∧
      IsA w' ab sb cap a' ∧ Kept (fun b => b = ab ∨ b = sb) w w' := by
  obtain ⟨A, i, r⟩ := I
  obtain ⟨A', hp', r'⟩ := r.put v hp
  refine (put_c i r.ok hp').mono ?_
  rintro e w' ⟨rfl, i', k⟩
  exact ⟨rfl, ⟨_, i', r'⟩, k⟩

theorem get_a {ab sb cap : Nat} {a : AA} {h v : Int} {b : Bool} {w : World} (I : IsA w ab sb cap a) (hh : h ≤ 9223372036854775807) (hp : a.get h = (v, b)) :
    Calls Try.prog 16 #[.pointer (some ⟨ab, 0, none⟩), .int .i64 h] w fun e w' => e = .returned (.tuple #[.int .i64 v, .bool b]) ∧ w = w' := by
  obtain ⟨A, i, r⟩ := I
  exact get_c i r.ok hh (by rw [r.get]; exact hp)

theorem free_a {ab sb cap : Nat} {a a' : AA} {h er : Int} {w : World} (I : IsA w ab sb cap a) (hh : h ≤ 9223372036854775807) (hp : a.free h = (a', er)) :
    Calls Try.prog 12 #[.pointer (some ⟨ab, 0, none⟩), .int .i64 h] w fun e w' => e = .returned (.int .i64 er) ∧ IsA w' ab sb cap a' ∧ Kept (fun b => b = ab ∨ b = sb) w w' := by
  obtain ⟨A, i, r⟩ := I
  obtain ⟨A', hp', r'⟩ := r.free h hp
  refine (free_c i r.ok hh hp').mono ?_
  rintro e w' ⟨rfl, i', k⟩
  exact ⟨rfl, ⟨_, i', r'⟩, k⟩

theorem len_a {ab sb cap : Nat} {a : AA} {n : Int} {w : World} (I : IsA w ab sb cap a) (hp : (a.len : Int) = n) :
    Calls Try.prog 13 #[.pointer (some ⟨ab, 0, none⟩)] w fun e w' => e = .returned (.int .i64 n) ∧ w = w' := by
  obtain ⟨A, i, r⟩ := I
  rw [← hp, ← r.tkLen]
  exact len_c ab _ w i.taken

theorem room_a {ab sb cap : Nat} {a : AA} {n : Int} {w : World} (I : IsA w ab sb cap a) (hp : (a.room : Int) = n) :
    Calls Try.prog 14 #[.pointer (some ⟨ab, 0, none⟩)] w fun e w' => e = .returned (.int .i64 n) ∧ IsA w' ab sb cap a ∧ Kept (fun _ => False) w w' := by
  obtain ⟨A, i, r⟩ := I
  rw [← hp, ← r.roomEq]
  refine (room_c ab sb cap A w i r.ok).mono ?_
  rintro e w' ⟨rfl, n, rfl⟩
  exact ⟨rfl, ⟨A, i.drewN n, r⟩, (Kept.refl _ w).drewN n⟩

set_option maxHeartbeats 1000000 in
set_option maxRecDepth 100000 in
theorem works_c (w : World) : Calls Try.prog 15 #[] w fun e w' => e = .returned (.bool true) ∧ Kept (fun _ => False) w w' := by
  go_enter Try.func15, Try.ntmps15
  go_wp2_with fail
  refine (new_a 2 _ (by decide) (by decide)).mono ?_
  rintro e w1 ⟨rfl, I0, K0⟩
  go_wp2_with fail
  refine (put_a I0 (h := 4096) (er := 0) rfl).mono ?_
  rintro e w2 ⟨rfl, I1, K1⟩
  go_wp2_with fail
  refine (put_a I1 (h := 4097) (er := 0) rfl).mono ?_
  rintro e w3 ⟨rfl, I2, K2⟩
  go_wp2_with fail
  refine (put_a I2 (h := 0) (er := 4) rfl).mono ?_
  rintro e w4 ⟨rfl, I3, K3⟩
  go_wp2_with fail
  refine (free_a I3 (h := 4096) (er := 0) (by decide) rfl).mono ?_
  rintro e w5 ⟨rfl, I4, K4⟩
  go_wp2_with fail
  refine (free_a I4 (h := 4097) (er := 0) (by decide) rfl).mono ?_
  rintro e w6 ⟨rfl, I5, K5⟩
  go_wp2_with fail
  refine (free_a I5 (h := 4097) (er := 5) (by decide) rfl).mono ?_
  rintro e w7 ⟨rfl, I6, K6⟩
  go_wp2_with fail
  refine (put_a I6 (h := 8193) (er := 0) rfl).mono ?_
  rintro e w8 ⟨rfl, I7, K7⟩
  go_wp2_with fail
  refine (get_a I7 (h := 8193) (v := 5) (b := true) (by decide) rfl).mono ?_
  rintro e w9 ⟨rfl, rfl⟩
  go_wp2_with fail
  refine (get_a I7 (h := 4096) (v := 0) (b := false) (by decide) rfl).mono ?_
  rintro e w9 ⟨rfl, rfl⟩
  go_wp2_with fail
  refine (len_a I7 (n := 1) rfl).mono ?_
  rintro e w9 ⟨rfl, rfl⟩
  go_wp2_with fail
  refine (room_a I7 (n := 1) rfl).mono ?_
  rintro e w9 ⟨rfl, I8, K8⟩
  go_wp2_with fail
  go_ret
  refine ⟨rfl, ?_⟩
  have q : ∀ i, i < w.heap.size → (fun b => b = w.heap.size + 1 ∨ b = w.heap.size) i → (fun _ : Nat => False) i := fun i hi h => by rcases h with h | h <;> omega
  exact (((((((((K0.trans K1 q).trans K2 q).trans K3 q).trans K4 q).trans K5 q).trans K6 q).trans K7 q).trans K8 (fun _ _ h => h)))

end Go.Proofs.Ytokmjjjedljcpaa
