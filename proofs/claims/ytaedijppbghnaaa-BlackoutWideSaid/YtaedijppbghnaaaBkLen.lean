/- Length. -/
import Derived.Test.YtaedijppbghnaaaBkFree
namespace Go.Proofs.Ytaedijppbghnaaa
open Go.RowKit Go.Shelf
open Bk (Sp chk vld has)

def lenS (l : List Sp) : Int := (l.map fun x => x.2 - x.1 + 1).sum
theorem lenS_snoc {l : List Sp} {j : Nat} (hj : j < l.length) : lenS (l.take (j + 1)) = lenS (l.take j) + (l[j].2 - l[j].1 + 1) := by
  rw [List.take_add_one, List.getElem?_eq_getElem hj]
  unfold lenS
  rw [List.map_append, List.sum_append]
  simp
theorem lenS_bd {l : List Sp} (h : Bk.Good l) : 0 ≤ lenS l ∧ lenS l ≤ 253402300800 * l.length := by
  induction l with
  | nil => exact ⟨Int.le_refl _, by simp [lenS]⟩
  | cons x l ih =>
    have ih := ih ⟨fun s hs => h.le s (.tail _ hs), fun s hs => h.lo s (.tail _ hs), fun s hs => h.hi s (.tail _ hs)⟩
    have h1 := h.le x (.head _)
    have h2 := h.lo x (.head _)
    have h3 := h.hi x (.head _)
    have e : lenS (x :: l) = (x.2 - x.1 + 1) + lenS l := rfl
    rw [e, List.length_cons]
    have e2 : (253402300800 : Int) * ((l.length + 1 : Nat) : Int) = 253402300800 * l.length + 253402300800 := by
      rw [Int.natCast_add, Int.mul_add]; simp
    rw [e2]
    omega
theorem good_take {l : List Sp} (h : Bk.Good l) (j : Nat) : Bk.Good (l.take j) :=
  ⟨fun s hs => h.le s (List.mem_of_mem_take hs), fun s hs => h.lo s (List.mem_of_mem_take hs), fun s hs => h.hi s (List.mem_of_mem_take hs)⟩
def lenE (l : List Sp) (a b : Int) : Int := if chk l ≠ 0 then chk l else if (!vld a || !vld b) = true then 14 else if b < a then 8 else 0
def lenF (l : List Sp) (a b : Int) : Int := if lenE l a b = 0 then lenS (Bk.rres wAnd l [(a, b)]) else 0
def LenPost (l : List Sp) (a b : Int) (w : World) (e : Ending) (w' : World) : Prop :=
  e = .returned (.tuple #[.int .i64 (lenF l a b), .int .i64 (lenE l a b)]) ∧ Kept (fun _ => False) w w'
theorem length_bad {w : World} {v : Value} {l : List Sp} (h : Prs w v l) (h63 : (l.length : Int) ≤ 9223372036854775807) (a b : Int) (hz : chk l ≠ 0) : Calls Try.prog 16 #[v, .int .i64 a, .int .i64 b] w (LenPost l a b w) := by
  have hE : lenE l a b = chk l := by unfold lenE; rw [if_pos hz]
  have HE := Lib.hid hE
  have HF : Hid (lenF l a b = 0) := Lib.hid (by unfold lenF; rw [hE, if_neg hz])
  have hc := check_c h h63
  obtain ⟨p, cap, rfl⟩ := h.len
  obtain ⟨r, hr⟩ : ∃ r, chk l = r := ⟨_, rfl⟩
  rw [hr] at hz HE hc
  have HC := Lib.hid hc
  have hz2 : (r != 0) = true := by simpa using hz
  clear hc h h63 hE hr
  go_enter Try.func16, Try.ntmps16
  go_wp2_with (go_at_call 26; refine HC.out.mono ?_; rintro e w2 ⟨rfl, K⟩)
  go_ret2
  exact ⟨by rw [HF.out, HE.out]; rfl, K⟩
set_option maxHeartbeats 1000000 in
theorem length_bad2 {w : World} {v : Value} {l : List Sp} (h : Prs w v l) (h63 : (l.length : Int) ≤ 9223372036854775807) (a b : Int) (hz : chk l = 0) (hv : (!vld a || !vld b) = true) : Calls Try.prog 16 #[v, .int .i64 a, .int .i64 b] w (LenPost l a b w) := by
  have hE : lenE l a b = 14 := by unfold lenE; rw [if_neg (by simp [hz]), if_pos hv]
  have HE := Lib.hid hE
  have HF : Hid (lenF l a b = 0) := Lib.hid (by unfold lenF; rw [hE]; rfl)
  have hc := check_c h h63
  obtain ⟨p, cap, rfl⟩ := h.len
  rw [hz] at hc
  have HC := Lib.hid hc
  clear hc h h63 hE hz
  cases h1 : vld a with
  | false =>
    have H1 := Lib.hid h1
    clear hv h1
    go_enter Try.func16, Try.ntmps16
    go_wp2_with (first | (go_at_call 26; refine HC.out.mono ?_; rintro e w2 ⟨rfl, K⟩) | (go_at_call 39; refine (valid_b false _ _ H1.out).mono ?_; rintro e w3 ⟨rfl, rfl⟩))
    go_ret2
    exact ⟨by rw [HF.out, HE.out]; rfl, K⟩
  | true =>
    have h2 : vld b = false := by simpa [h1] using hv
    have H1 := Lib.hid h1
    have H2 := Lib.hid h2
    clear hv h1 h2
    go_enter Try.func16, Try.ntmps16
    go_wp2_with (first | (go_at_call 26; refine HC.out.mono ?_; rintro e w2 ⟨rfl, K⟩) | (go_at_call 39; refine (valid_b true _ _ H1.out).mono ?_; rintro e w3 ⟨rfl, rfl⟩) | (go_at_call 39; refine (valid_b false _ _ H2.out).mono ?_; rintro e w3 ⟨rfl, rfl⟩))
    go_ret2
    exact ⟨by rw [HF.out, HE.out]; rfl, K⟩
set_option maxHeartbeats 1000000 in
theorem length_bad3 {w : World} {v : Value} {l : List Sp} (h : Prs w v l) (h63 : (l.length : Int) ≤ 9223372036854775807) (a b : Int) (hz : chk l = 0) (h1 : vld a = true) (h2 : vld b = true) (hab : b < a) : Calls Try.prog 16 #[v, .int .i64 a, .int .i64 b] w (LenPost l a b w) := by
  have hE : lenE l a b = 8 := by unfold lenE; rw [if_neg (by simp [hz]), if_neg (by simp [h1, h2]), if_pos hab]
  have HE := Lib.hid hE
  have HF : Hid (lenF l a b = 0) := Lib.hid (by unfold lenF; rw [hE]; rfl)
  have hc := check_c h h63
  obtain ⟨p, cap, rfl⟩ := h.len
  rw [hz] at hc
  have HC := Lib.hid hc
  have H1 := Lib.hid h1
  have H2 := Lib.hid h2
  clear hc h h63 hE hz h1 h2
  go_enter Try.func16, Try.ntmps16
  go_wp2_with (first | (go_at_call 26; refine HC.out.mono ?_; rintro e w2 ⟨rfl, K⟩) | (go_at_call 39; refine (valid_b true _ _ (by first | exact H1.out | exact H2.out)).mono ?_; rintro e w3 ⟨rfl, rfl⟩))
  go_ret2
  exact ⟨by rw [HF.out, HE.out]; rfl, K⟩
end Go.Proofs.Ytaedijppbghnaaa
