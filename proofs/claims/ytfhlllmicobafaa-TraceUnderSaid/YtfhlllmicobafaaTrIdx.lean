/- TrIdx: texts for the statements of this seat: contracts of functions, walks, plain laws. Conditions: none. -/
import Derived.Shelf.SlicesE.IndexFunc
import Derived.Test.YtfhlllmicobafaaTrUnder
set_option linter.all false
/- IndexFunc of events; the test of Prefix. -/
namespace Go.Proofs.Ytfhlllmicobafaa
open Go.RowKit Go.Shelf
open Tr (Ev ofB)

/-- What IndexFunc answers. -/
def idxF (p : Ev → Bool) (l : List Ev) : Int := if l.findIdx p < l.length then (l.findIdx p : Int) else -1
theorem idxF_hit {p : Ev → Bool} {l : List Ev} {j : Nat} {x : Ev} (hx : l[j]? = some x) (hp : p x = true) (h : ∀ y ∈ l.take j, p y = false) : idxF p l = (j : Int) := by
  have hj := (List.getElem?_eq_some_iff.1 hx).1
  have hxe := (List.getElem?_eq_some_iff.1 hx).2
  have : l.findIdx p = j := by
    rw [List.findIdx_eq hj]
    refine ⟨by rw [hxe]; exact hp, fun i hi => ?_⟩
    exact h _ (List.mem_take_iff_getElem.2 ⟨i, by omega, rfl⟩)
  unfold idxF
  rw [this, if_pos hj]
theorem idxF_miss {p : Ev → Bool} {l : List Ev} (h : ∀ y ∈ l, p y = false) : idxF p l = -1 := by
  unfold idxF
  rw [if_neg]
  rw [List.findIdx_lt_length]
  rintro ⟨x, hx, hp⟩
  rw [h x hx] at hp
  cases hp
set_option maxHeartbeats 4000000 in
theorem index43_c (p : Ev → Bool) (g : Nat) (lb : Array Value) (eg : ∀ args w, (callFunc g args).run Try.prog w = .ok (.enter g args) w) {w : World} {v : Value} {l : List Ev} (h : Evs w v l) (hl : l.length ≤ 1000000)
    (hg : ∀ W e b, Kept (fun _ => False) w W → p e = b → Calls Try.prog g (#[evV e] ++ lb) W fun r W' => r = .returned (.bool b) ∧ Kept (fun _ => False) W W') :
    Calls Try.prog 43 #[v, .func (.func g) #[] lb] w fun r w' => r = .returned (.int .i64 (idxF p l)) ∧ Kept (fun _ => False) w w' := by
  have HQ := Lib.hid h
  have HG := Lib.hid hg
  obtain ⟨aa, cap, rfl⟩ := h.len
  obtain ⟨N, hN⟩ : ∃ N : Nat, N = l.length := ⟨_, rfl⟩
  rw [← hN] at hl HQ ⊢
  have HN := Lib.hid hN
  clear h hN hg
  go_enter Try.func43, Try.ntmps43
  go_wp2
  go_loopw [5, 8] (fun _ s8 wr => ∃ k : Nat, k ≤ N ∧ s8 = .int .i64 k ∧ Kept (fun _ => False) w wr ∧ ∀ y ∈ l.take k, p y = false) (fun _ i _ => match i with | .int _ x => (N - x).toNat | _ => 0)
  case atStart => exact ⟨0, Nat.zero_le _, rfl, Kept.refl _ _, by simp⟩
  case round =>
    obtain ⟨k, hk, rfl, K, hno⟩ := hrel
    have HK := Lib.hid K
    have HNO := Lib.hid hno
    clear K hno
    by_cases hlt : k < N
    · obtain ⟨b0, off, cap', hv, hcp, hb0, hrows⟩ := (HQ.out.same HK.out).pos (by have := HN.out; omega)
      rw [← HN.out] at hv
      injection hv with e1 e2 e3
      subst e1 e3
      have hjl : k < l.length := by have := HN.out; omega
      have HX := Lib.hid (get_of hjl)
      have hx8 := hrows.ev HX.out
      generalize l[k] = x at HX hx8
      have i1 : (0 : Int) ≤ (k : Int) := by omega
      have i2 : (k : Int) < N := by omega
      obtain ⟨a0, a1, a2, a3, a4, a5, a6, a7⟩ := hx8
      obtain ⟨b, hb⟩ : ∃ b, p x = b := ⟨_, rfl⟩
      have HB := Lib.hid hb
      have HCL := Lib.hid (HG.out _ x b HK.out hb)
      clear hrows e2 hb
      cases b with
      | true =>
        have HR : Hid (idxF p l = (k : Int)) := Lib.hid (idxF_hit HX.out HB.out HNO.out)
        go_wp2_with (go_at_fn g; fail)
        refine HCL.out.mono ?_
        rintro e w3 ⟨rfl, K3⟩
        have HK3 := Lib.hid (HK.out.trans K3 (fun _ _ h => h))
        clear K3
        go_wp2
        go_ret
        exact ⟨by rw [HR.out]; rfl, HK3.out⟩
      | false =>
        have HNX : Hid (∀ y ∈ l.take (k + 1), p y = false) := Lib.hid (by
          rw [Tr.take_snoc' HX.out]
          intro y hy
          rcases List.mem_append.1 hy with hy | hy
          · exact HNO.out y hy
          · rw [List.mem_singleton] at hy; subst hy; exact HB.out)
        go_wp2_with (go_at_fn g; fail)
        refine HCL.out.mono ?_
        rintro e w3 ⟨rfl, K3⟩
        have HK3 := Lib.hid (HK.out.trans K3 (fun _ _ h => h))
        clear K3 a0 a1 a2 a3 a4 a5 a6 a7
        go_wp2
        go_roundw
        case rel => exact ⟨k + 1, by omega, by go_num, HK3.out, HNX.out⟩
        case measure => simp; omega
    · obtain rfl : k = N := by omega
      have HR : Hid (idxF p l = -1) := Lib.hid (idxF_miss (by have := HNO.out; rwa [List.take_of_length_le (by have := HN.out; omega)] at this))
      go_wp2
      go_ret
      exact ⟨by rw [HR.out]; rfl, HK.out⟩
theorem after_is (b : Bool) (e : Ev) (now : Int) (Bd : Nat) (w : World) (hd : RowAt w Bd [.int .i64 now]) (h : decide (now < e.t) = b) :
    Calls Try.prog 59 #[evV e, .pointer (some ⟨Bd, 0, none⟩)] w fun r w' => r = .returned (.bool b) ∧ Kept (fun _ => False) w w' := by
  have HK : Hid (∀ o, Kept (fun _ => False) w (w.alloc o)) := Lib.hid fun o => (Kept.refl _ _).alloc _
  have c := hd.get (j := 0) rfl
  have cl := hd.lt
  have HB := Lib.hid h
  clear h hd
  by_cases h1 : now < e.t
  · have HE : Hid (b = true) := Lib.hid (by rw [← HB.out]; simp [h1])
    go_enter Try.func59, Try.ntmps59
    go_wp2
    go_ret
    exact ⟨by rw [HE.out]; rfl, HK.out _⟩
  · have HE : Hid (b = false) := Lib.hid (by rw [← HB.out]; simp [h1])
    go_enter Try.func59, Try.ntmps59
    go_wp2
    go_ret
    exact ⟨by rw [HE.out]; rfl, HK.out _⟩
end Go.Proofs.Ytfhlllmicobafaa
