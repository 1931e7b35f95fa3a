/- How many times a list has: the plain law. -/
import Derived.Test.YtaedijppbghnaaaBkSetsW
namespace Go.Proofs.Ytaedijppbghnaaa
open Go.RowKit
open Bk (Sp has chk vld)

/-- How many of the n times from x on. -/
def cnt (f : Int → Bool) (x : Int) : Nat → Int
  | 0 => 0
  | n + 1 => cnt f x n + if f (x + n) = true then 1 else 0
theorem cnt_bd (f : Int → Bool) (x : Int) : ∀ n, 0 ≤ cnt f x n ∧ cnt f x n ≤ n
  | 0 => by simp [cnt]
  | n + 1 => by
    have := cnt_bd f x n
    rw [cnt]
    split <;> omega
theorem cnt_congr {f g : Int → Bool} {x : Int} : ∀ {n : Nat}, (∀ t, x ≤ t → t < x + n → f t = g t) → cnt f x n = cnt g x n
  | 0, _ => rfl
  | n + 1, h => by
    rw [cnt, cnt, cnt_congr (n := n) (fun t h1 h2 => h t h1 (by omega)), h (x + n) (by omega) (by omega)]
theorem cnt_add (f : Int → Bool) (x : Int) (n : Nat) : ∀ m, cnt f x (n + m) = cnt f x n + cnt f (x + n) m
  | 0 => by simp [cnt]
  | m + 1 => by
    rw [← Nat.add_assoc, cnt, cnt_add f x n m, cnt]
    have : x + ((n + m : Nat) : Int) = x + n + m := by omega
    rw [this]
    omega
theorem cnt_pt {f g h k : Int → Bool} (x : Int) : ∀ n : Nat, (∀ t, (if f t = true then (1 : Int) else 0) + (if g t = true then 1 else 0) = (if h t = true then 1 else 0) + (if k t = true then 1 else 0)) → cnt f x n + cnt g x n = cnt h x n + cnt k x n
  | 0, _ => by simp [cnt]
  | n + 1, q => by
    have := cnt_pt x n q
    have := q (x + n)
    simp only [cnt]
    omega
theorem cnt_span (s : Sp) (x : Int) (h1 : x ≤ s.1) (h2 : s.1 ≤ s.2) : ∀ n : Nat, cnt (fun t => inS t s) x n = if x + n ≤ s.1 then 0 else if x + n ≤ s.2 + 1 then x + n - s.1 else s.2 - s.1 + 1
  | 0 => by rw [cnt, if_pos (by omega)]
  | n + 1 => by
    rw [cnt, cnt_span s x h1 h2 n]
    by_cases q1 : s.1 ≤ x + n
    · by_cases q2 : x + n ≤ s.2
      · rw [if_pos (show inS (x + n) s = true by simp [inS]; omega)]
        split <;> split <;> (try split) <;> (try split) <;> omega
      · rw [if_neg (show ¬ inS (x + n) s = true by simp [inS]; omega)]
        split <;> split <;> (try split) <;> (try split) <;> omega
    · rw [if_neg (show ¬ inS (x + n) s = true by simp [inS]; omega)]
      split <;> split <;> (try split) <;> (try split) <;> omega
theorem cnt_norm {l : List Sp} (hn : Bk.Norm l) (x : Int) (n : Nat) (hb : ∀ s ∈ l, x ≤ s.1 ∧ s.2 < x + n) : cnt (has l) x n = lenS l := by
  induction l with
  | nil =>
    have : ∀ n, cnt (has []) x n = 0 := by
      intro n
      induction n with
      | zero => rfl
      | succ n ih => rw [cnt, ih]; rfl
    exact this n
  | cons s r ih =>
    have e : lenS (s :: r) = (s.2 - s.1 + 1) + lenS r := rfl
    have hs := hb s (.head _)
    have hle := hn.le s (.head _)
    rw [e, ← ih hn.tail (fun y hy => hb y (.tail _ hy))]
    have h1 : cnt (fun t => inS t s) x n = s.2 - s.1 + 1 := by
      rw [cnt_span s x hs.1 hle]
      split
      · omega
      · split <;> omega
    rw [← h1]
    have key := cnt_pt (f := has (s :: r)) (g := fun _ => false) (h := fun t => inS t s) (k := has r) x n (fun t => by
      rw [Bk.has_cons]
      by_cases q : t ≤ s.2 + 1
      · rw [hn.off q, Bool.or_false]
        show (if (inS t s) = true then (1 : Int) else 0) + _ = _
        simp
      · have : inS t s = false := by simp [inS]; omega
        have q2 : (decide (s.1 ≤ t) && decide (t ≤ s.2)) = false := this
        rw [q2, this]
        simp)
    have z : ∀ n, cnt (fun _ => false) x n = 0 := by
      intro n
      induction n with
      | zero => rfl
      | succ n ih => rw [cnt, ih]; rfl
    rw [z] at key
    omega
theorem vld_ok {t : Int} (h0 : 0 ≤ t) (h1 : t ≤ 256) : vld t = true := by simp [vld]; omega
theorem lenF_cnt {s : List Sp} (hc : chk s = 0) {x z : Int} (h0 : 0 ≤ x) (h1 : x ≤ z) (h2 : z ≤ 256) : lenE s x z = 0 ∧ lenF s x z = cnt (has s) x (z - x + 1).toNat := by
  have hE : lenE s x z = 0 := by
    unfold lenE
    rw [if_neg (by simp [hc]), if_neg (by rw [vld_ok h0 (by omega), vld_ok (by omega) h2]; decide), if_neg (by omega)]
  refine ⟨hE, ?_⟩
  unfold lenF
  rw [if_pos hE]
  obtain ⟨hn, hh⟩ := Bk.rres_law wAnd rfl s [(x, z)]
  have hin : ∀ t, has (Bk.rres wAnd s [(x, z)]) t = true → x ≤ t ∧ t ≤ z := fun t ht => by
    rw [hh] at ht
    simp [wAnd, Bk.has_cons, Bk.has_nil] at ht
    omega
  rw [← cnt_norm hn x (z - x + 1).toNat (fun y hy => by
    have a1 := hin y.1 (Bk.has_iff.2 ⟨y, hy, Int.le_refl _, hn.le y hy⟩)
    have a2 := hin y.2 (Bk.has_iff.2 ⟨y, hy, hn.le y hy, Int.le_refl _⟩)
    omega)]
  refine cnt_congr fun t t1 t2 => ?_
  rw [hh]
  have : has [(x, z)] t = true := by rw [Bk.has_cons]; simp; omega
  rw [this]
  simp [wAnd]
/-- What is known of a list's lengths. -/
theorem sums_one {s : List Sp} (hc : chk s = 0) {x y z : Int} (h0 : 0 ≤ x) (h1 : x ≤ y) (h2 : y ≤ z) (h3 : z ≤ 255) :
    lenE s x z = 0 ∧ lenE s x y = 0 ∧ (y < z → lenE s (y + 1) z = 0) ∧ lenF s x z = lenF s x y + (if y < z then lenF s (y + 1) z else 0) ∧ 0 ≤ lenF s x z ∧ lenF s x z ≤ z - x + 1 ∧ (0 ≤ lenF s x y ∧ lenF s x y ≤ 256) ∧ (0 ≤ (if y < z then lenF s (y + 1) z else 0) ∧ (if y < z then lenF s (y + 1) z else 0) ≤ 256) := by
  have a := lenF_cnt hc h0 (show x ≤ z by omega) (by omega)
  have b := lenF_cnt hc h0 h1 (by omega)
  have ba := cnt_bd (has s) x (z - x + 1).toNat
  have bb := cnt_bd (has s) x (y - x + 1).toNat
  by_cases hyz : y < z
  · have c := lenF_cnt hc (show 0 ≤ y + 1 by omega) (show y + 1 ≤ z by omega) (by omega)
    have bc := cnt_bd (has s) (y + 1) (z - (y + 1) + 1).toNat
    have e := cnt_add (has s) x (y - x + 1).toNat (z - (y + 1) + 1).toNat
    have e1 : (y - x + 1).toNat + (z - (y + 1) + 1).toNat = (z - x + 1).toNat := by omega
    have e2 : x + ((y - x + 1).toNat : Int) = y + 1 := by omega
    rw [e1, e2] at e
    rw [a.2, b.2, c.2, if_pos hyz]
    exact ⟨a.1, b.1, fun _ => c.1, e, by omega, by omega, by omega, by omega⟩
  · have : y = z := by omega
    subst this
    rw [if_neg hyz, a.2]
    exact ⟨a.1, b.1, fun h => absurd h hyz, by omega, by omega, by omega, by omega, by omega⟩
theorem sums_two {a b : List Sp} (ha : Sp200 a) (hb : Sp200 b) {x z : Int} (h0 : 0 ≤ x) (h1 : x ≤ z) (h3 : z ≤ 255) :
    lenF a x z + lenF b x z = lenF (Bk.rres wOr a b) x z + lenF (Bk.rres wAnd a b) x z ∧ lenF a x z = lenF (Bk.rres wAnd a b) x z + lenF (Bk.rres wNot a b) x z := by
  have hu := rres_200 (want := wOr) rfl ha hb
  have hm := rres_200 (want := wAnd) rfl ha hb
  have hw := rres_200 (want := wNot) rfl ha hb
  rw [(lenF_cnt ha.chk h0 h1 (by omega)).2, (lenF_cnt hb.chk h0 h1 (by omega)).2, (lenF_cnt hu.2.2.2.1 h0 h1 (by omega)).2, (lenF_cnt hm.2.2.2.1 h0 h1 (by omega)).2, (lenF_cnt hw.2.2.2.1 h0 h1 (by omega)).2]
  refine ⟨cnt_pt x _ fun t => ?_, ?_⟩
  · rw [hu.2.2.2.2, hm.2.2.2.2]
    cases has a t <;> cases has b t <;> rfl
  · have key := cnt_pt (f := has a) (g := fun _ => false) (h := has (Bk.rres wAnd a b)) (k := has (Bk.rres wNot a b)) x (z - x + 1).toNat (fun t => by
      rw [hm.2.2.2.2, hw.2.2.2.2]
      cases has a t <;> cases has b t <;> rfl)
    have z0 : ∀ n, cnt (fun _ => false) x n = 0 := by
      intro n
      induction n with
      | zero => rfl
      | succ n ih => rw [cnt, ih]; rfl
    rw [z0] at key
    omega
end Go.Proofs.Ytaedijppbghnaaa
