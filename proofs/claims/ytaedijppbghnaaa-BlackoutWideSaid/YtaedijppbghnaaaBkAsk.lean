/- In, has, Normal. -/
import Derived.Test.YtaedijppbghnaaaBkIn
namespace Go.Proofs.Ytaedijppbghnaaa
open Go.RowKit Go.Shelf
open Bk (Sp chk vld has)

def askE (l : List Sp) (t : Int) : Int := if chk l ≠ 0 then chk l else if vld t = true then 0 else 14
def AskPost (l : List Sp) (t : Int) (w : World) (e : Ending) (w' : World) : Prop :=
  e = .returned (.tuple #[.bool (if askE l t = 0 then has l t else false), .int .i64 (askE l t)]) ∧ Kept (fun _ => False) w w'
theorem in_c {w : World} {v : Value} {l : List Sp} (h : Prs w v l) (h63 : (l.length : Int) ≤ 9223372036854775807) (t : Int) : Calls Try.prog 27 #[v, .int .i64 t] w (AskPost l t w) := by
  have HC := Lib.hid (fun W K => check_c (w := W) (h.same K) h63)
  have HI := Lib.hid (fun W K b ht => contains48_c (w := W) (h.same K) h63 b t ht)
  have HE : Hid (askE l t = if chk l ≠ 0 then chk l else if vld t = true then 0 else 14) := Lib.hid rfl
  obtain ⟨a, cap, rfl⟩ := h.len
  obtain ⟨n, hn⟩ : ∃ n : Nat, l.length = n := ⟨_, rfl⟩
  rw [hn] at HC HI ⊢
  clear h h63 hn
  have K0 := (Kept.refl (fun _ => False) w).alloc (.cells #[.int .i64 t] 2)
  have b0 := RowAt.new w 2 #[.int .i64 t]
  have hcall := HC.out _ K0
  by_cases hz : chk l = 0
  · rw [hz] at hcall
    have HC2 := Lib.hid hcall
    cases hv : vld t with
    | false =>
      have HZ : Hid (askE l t = 14) := Lib.hid (by rw [HE.out, if_neg (by simp [hz]), hv]; rfl)
      have HV := Lib.hid hv
      clear hz hv hcall
      have HB := Lib.hid b0
      have HK := Lib.hid K0
      clear b0 K0
      go_enter Try.func27, Try.ntmps27
      go_wp2_with fail
      refine HC2.out.mono ?_
      rintro e w2 ⟨rfl, K2⟩
      have ct := (HB.out.same K2).get (j := 0) rfl
      have HK2 := Lib.hid (HK.out.trans K2 (fun _ _ h => h))
      clear K2
      go_wp2_with (go_at_call 39; refine (valid_b false _ _ HV.out).mono ?_; rintro e w3 ⟨rfl, rfl⟩)
      go_ret2
      exact ⟨by rw [HZ.out]; rfl, HK2.out⟩
    | true =>
      have HZ : Hid (askE l t = 0) := Lib.hid (by rw [HE.out, if_neg (by simp [hz]), hv]; rfl)
      have HV := Lib.hid hv
      clear hz hv hcall
      have HB := Lib.hid b0
      have HK := Lib.hid K0
      clear b0 K0
      go_enter Try.func27, Try.ntmps27
      go_wp2_with fail
      refine HC2.out.mono ?_
      rintro e w2 ⟨rfl, K2⟩
      have ct := (HB.out.same K2).get (j := 0) rfl
      have HK2 := Lib.hid (HK.out.trans K2 (fun _ _ h => h))
      have HI2 := Lib.hid (HI.out w2 HK2.out w.heap.size ct)
      clear K2
      go_wp2_with (first | (go_at_call 39; refine (valid_b true _ _ HV.out).mono ?_; rintro e w3 ⟨rfl, rfl⟩) | (go_at_call 46; refine HI2.out.mono ?_; rintro e w3 ⟨rfl, K3⟩))
      go_ret2
      exact ⟨by rw [HZ.out]; rfl, HK2.out.trans K3 (fun _ _ h => h)⟩
  · have HZ : Hid (askE l t = chk l) := Lib.hid (by rw [HE.out, if_pos hz])
    obtain ⟨r, hr⟩ : ∃ r, chk l = r := ⟨_, rfl⟩
    rw [hr] at hz hcall HZ
    have hz2 : (r != 0) = true := by simpa using hz
    have HC2 := Lib.hid hcall
    have HK := Lib.hid K0
    clear hcall b0 K0 hr
    go_enter Try.func27, Try.ntmps27
    go_wp2_with (go_at_call 26; refine HC2.out.mono ?_; rintro e w2 ⟨rfl, K2⟩)
    go_ret2
    exact ⟨by rw [HZ.out, if_neg hz]; rfl, HK.out.trans K2 (fun _ _ h => h)⟩
theorem has_c {w : World} {v : Value} {l : List Sp} (h : Prs w v l) (h63 : (l.length : Int) ≤ 9223372036854775807) (t : Int) : Calls Try.prog 21 #[v, .int .i64 t] w fun e w' => e = .returned (.bool (has l t)) ∧ Kept (fun _ => False) w w' := by
  have K0 := (Kept.refl (fun _ => False) w).alloc (.cells #[.int .i64 t] 2)
  have b0 := RowAt.new w 2 #[.int .i64 t]
  have HC := Lib.hid (contains47_c (h.same K0) h63 w.heap.size t (b0.get (j := 0) rfl))
  have HK := Lib.hid K0
  obtain ⟨a, cap, rfl⟩ := h.len
  clear h h63 K0 b0
  go_enter Try.func21, Try.ntmps21
  go_wp2_with (go_at_call 46; refine HC.out.mono ?_; rintro e w2 ⟨rfl, K⟩)
  go_ret
  exact ⟨rfl, HK.out.trans K (fun _ _ h => h)⟩
theorem normal_c {w : World} {v : Value} {l : List Sp} (h : Prs w v l) (h63 : (l.length : Int) ≤ 9223372036854775807) : Calls Try.prog 23 #[v] w (ResPost wOr l [] w) := by
  have HC := Lib.hid (op13_c h (Prs.nil w none 0) h63 (by simp))
  obtain ⟨a, cap, rfl⟩ := h.len
  clear h h63
  go_enter Try.func23, Try.ntmps23
  go_wp2_with (go_at_call 13; refine HC.out.mono ?_; rintro e w2 ⟨v, rfl, hv, ho, K⟩)
  go_ret2
  exact ⟨v, rfl, hv, ho, K⟩
end Go.Proofs.Ytaedijppbghnaaa
