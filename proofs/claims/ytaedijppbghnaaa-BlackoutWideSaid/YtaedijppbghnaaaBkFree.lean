/- Free. -/
import Derived.Test.YtaedijppbghnaaaBkAsk
namespace Go.Proofs.Ytaedijppbghnaaa
open Go.RowKit Go.Shelf
open Bk (Sp chk vld has)

theorem err2_nil (l : List Sp) : err2 l [] = chk l := by
  unfold err2
  split
  · rfl
  · rename_i h; simp at h; rw [h]; rfl
/-- The times of a result are valid. -/
theorem rres_good {want : Bool → Bool → Bool} (hw : want false false = false) {a b : List Sp} (ha : Bk.Good a) (hb : Bk.Good b) : Bk.Good (Bk.rres want a b) := by
  obtain ⟨hn, hh⟩ := Bk.rres_law want hw a b
  have key : ∀ t, has (Bk.rres want a b) t = true → 0 ≤ t ∧ t ≤ 253402300799 := fun t ht => by
    rw [hh] at ht
    have : has a t = true ∨ has b t = true := by
      cases h1 : has a t <;> cases h2 : has b t <;> simp_all
    rcases this with h | h
    · obtain ⟨s, hs, h1, h2⟩ := Bk.has_iff.1 h
      have := ha.lo s hs; have := ha.hi s hs; omega
    · obtain ⟨s, hs, h1, h2⟩ := Bk.has_iff.1 h
      have := hb.lo s hs; have := hb.hi s hs; omega
  refine ⟨hn.le, fun s hs => ?_, fun s hs => ?_⟩
  · exact (key s.1 (Bk.has_iff.2 ⟨s, hs, Int.le_refl _, hn.le s hs⟩)).1
  · exact (key s.2 (Bk.has_iff.2 ⟨s, hs, hn.le s hs, Int.le_refl _⟩)).2
def freeT : List Sp → Int → Int
  | [], t => t
  | x :: r, t => if inS t x = true then x.2 + 1 else freeT r t
def freeF (l : List Sp) (t : Int) : Int × Bool × Int :=
  if askE l t ≠ 0 then (0, false, askE l t) else if vld (freeT (Bk.rres wOr l []) t) = true then (freeT (Bk.rres wOr l []) t, true, 0) else (0, false, 0)
def FreePost (l : List Sp) (t : Int) (w : World) (e : Ending) (w' : World) : Prop :=
  e = .returned (.tuple #[.int .i64 (freeF l t).1, .bool (freeF l t).2.1, .int .i64 (freeF l t).2.2]) ∧ Kept (fun _ => False) w w'
theorem free_bad {w : World} {v : Value} {l : List Sp} (h : Prs w v l) (h63 : (l.length : Int) ≤ 9223372036854775807) (t : Int) (hz : chk l ≠ 0) : Calls Try.prog 20 #[v, .int .i64 t] w (FreePost l t w) := by
  have hask : askE l t = chk l := by unfold askE; rw [if_pos hz]
  have HF : Hid (freeF l t = (0, false, chk l)) := Lib.hid (by unfold freeF; rw [hask, if_pos hz])
  have hc := normal_c h h63
  obtain ⟨a, cap, rfl⟩ := h.len
  have HE := Lib.hid (err2_nil l)
  have HC := Lib.hid hc
  obtain ⟨r, hr⟩ : ∃ r, chk l = r := ⟨_, rfl⟩
  rw [hr] at hz HF HE
  have hz2 : (r != 0) = true := by simpa using hz
  clear hc h h63 hask hr
  go_enter Try.func20, Try.ntmps20
  go_wp2_with (go_at_call 23; refine HC.out.mono ?_; rintro e w2 ⟨v, rfl, hv, ho, K⟩; rw [HE.out] at hv ⊢; clear hv)
  go_ret3
  exact ⟨by rw [HF.out]; rfl, K⟩
theorem free_bad2 {w : World} {v : Value} {l : List Sp} (h : Prs w v l) (h63 : (l.length : Int) ≤ 9223372036854775807) (t : Int) (hz : chk l = 0) (hv : vld t = false) : Calls Try.prog 20 #[v, .int .i64 t] w (FreePost l t w) := by
  have hask : askE l t = 14 := by unfold askE; rw [if_neg (by simp [hz]), hv]; rfl
  have HF : Hid (freeF l t = (0, false, 14)) := Lib.hid (by unfold freeF; rw [hask]; rfl)
  have HV := Lib.hid hv
  have hc := normal_c h h63
  obtain ⟨a, cap, rfl⟩ := h.len
  have HE := Lib.hid ((err2_nil l).trans hz)
  have HC := Lib.hid hc
  clear hc h h63 hask hz hv
  go_enter Try.func20, Try.ntmps20
  go_wp2_with (first | (go_at_call 23; refine HC.out.mono ?_; rintro e w2 ⟨v, rfl, hv, ho, K⟩; rw [HE.out] at hv ⊢; clear hv) | (go_at_call 39; refine (valid_b false _ _ HV.out).mono ?_; rintro e w3 ⟨rfl, rfl⟩))
  go_ret3
  exact ⟨by rw [HF.out]; rfl, K⟩
theorem rext_len (out : List Sp) (x y : Int) : (Bk.rext out x y).length ≤ out.length + 1 := by
  unfold Bk.rext
  split
  · split
    · simp
    · simp
  · simp
theorem rfold_len (wn : Int → Bool) : ∀ (l : List Int) (out : List Sp), (Bk.rfold wn l out).length ≤ out.length + l.length
  | x :: y :: r, out => by
    rw [Bk.rfold]
    refine Nat.le_trans (rfold_len wn (y :: r) _) ?_
    have := rext_len out x y
    split <;> simp only [List.length_cons] <;> omega
  | [x], out => by simp [Bk.rfold]
  | [], out => by simp [Bk.rfold]
theorem ins_len (t : Int) (l : List Int) : (Bk.ins t l).length ≤ l.length + 1 := by
  induction l with
  | nil => simp [Bk.ins]
  | cons x r ih => rw [Bk.ins]; split <;> (try split) <;> simp <;> omega
theorem bords_len (l : List Sp) : (Bk.bords l).length ≤ 2 * l.length := by
  have key : ∀ (l : List Sp) (o : List Int), (l.foldl (fun o s => Bk.ins (s.2 + 1) (Bk.ins s.1 o)) o).length ≤ o.length + 2 * l.length := by
    intro l
    induction l with
    | nil => intro o; simp
    | cons s l ih =>
      intro o
      have h1 := ih (Bk.ins (s.2 + 1) (Bk.ins s.1 o))
      have h2 := ins_len (s.2 + 1) (Bk.ins s.1 o)
      have h3 := ins_len s.1 o
      rw [List.foldl_cons, List.length_cons]
      omega
  have := key l []
  simpa [Bk.bords] using this
theorem rres_len (want : Bool → Bool → Bool) (a b : List Sp) : (Bk.rres want a b).length ≤ 2 * (a.length + b.length) := by
  have h1 := rfold_len (fun t => want (has a t) (has b t)) (Bk.bords (a ++ b)) []
  have h2 := bords_len (a ++ b)
  rw [List.length_append] at h2
  unfold Bk.rres
  simp only [List.length_nil] at h1
  omega
theorem freeT_get {l : List Sp} {j : Nat} (hj : j < l.length) (t : Int) : freeT (l.drop j) t = if inS t l[j] = true then l[j].2 + 1 else freeT (l.drop (j + 1)) t := by
  rw [List.drop_eq_getElem_cons hj, freeT]
set_option maxHeartbeats 2000000 in
theorem free_good {w : World} {v : Value} {l : List Sp} (h : Prs w v l) (h63 : (l.length : Int) ≤ 9223372036854775807) (t : Int) (hz : chk l = 0) (hv : vld t = true) : Calls Try.prog 20 #[v, .int .i64 t] w (FreePost l t w) := by
  have hask : askE l t = 0 := by unfold askE; rw [if_neg (by simp [hz]), hv]; rfl
  have HG := Lib.hid (rres_good (want := wOr) rfl (Bk.chk_good.1 hz).2 Bk.Good.nil)
  have HF0 : freeF l t = if vld (freeT (Bk.rres wOr l []) t) = true then (freeT (Bk.rres wOr l []) t, true, 0) else (0, false, 0) := by unfold freeF; rw [if_neg (by simp [hask])]
  have hlen : (Bk.rres wOr l []).length ≤ 128 := by have := rres_len wOr l []; have := (Bk.chk_good.1 hz).1; simp at *; omega
  have HF := Lib.hid HF0
  have HV := Lib.hid hv
  have hc := normal_c h h63
  obtain ⟨a, cap, rfl⟩ := h.len
  have HE := Lib.hid ((err2_nil l).trans hz)
  have HC := Lib.hid hc
  clear hc h h63 hask hz hv HF0
  go_enter Try.func20, Try.ntmps20
  go_wp2_with fail
  refine HC.out.mono ?_
  rintro e w2 ⟨v, rfl, hv, ho, K⟩
  rw [HE.out, if_pos rfl] at hv
  rw [HE.out]
  generalize Bk.rres wOr l [] = nl at hv HF HG hlen
  have HQ := Lib.hid hv
  have HK0 := Lib.hid K
  obtain ⟨an, capn, rfl⟩ := hv.len
  obtain ⟨n, hn⟩ : ∃ n : Nat, nl.length = n := ⟨_, rfl⟩
  have HN := Lib.hid hn
  rw [hn] at hlen ⊢
  clear hv K ho HC hn
  go_wp2_with (go_at_call 39; refine (valid_b true _ _ HV.out).mono ?_; rintro e w3 ⟨rfl, rfl⟩)
  go_loopw [1, 24] (fun tv i wr => ∃ j : Nat, j ≤ n ∧ i = .int .i64 j ∧ tv = .int .i64 t ∧ freeT nl t = freeT (nl.drop j) t ∧ Kept (fun _ => False) w2 wr) (fun _ i _ => match i with | .int _ x => (n - x).toNat | _ => 0)
  case atStart => exact ⟨0, Nat.zero_le _, rfl, rfl, rfl, Kept.refl _ _⟩
  case round =>
    obtain ⟨j, hj, rfl, rfl, hc, K⟩ := hrel
    have HC := Lib.hid hc
    have HK := Lib.hid K
    clear hc K
    by_cases hlt : j < n
    · have hjl : j < nl.length := by have := HN.out; omega
      have HLT := Lib.hid hlt
      obtain ⟨b0, off, cap', hv, hb, hcell⟩ := (HQ.out.same HK.out).pos (by omega)
      injection hv with e1 e2 e3
      subst e1 e3
      have c0 := (Prs.at hcell hjl).1
      have c1 := (Prs.at hcell hjl).2
      have HS := Lib.hid (freeT_get hjl t)
      have hb1 := HG.out.hi nl[j] (List.getElem_mem hjl)
      have hb2 := HG.out.lo nl[j] (List.getElem_mem hjl)
      have hb3 := HG.out.le nl[j] (List.getElem_mem hjl)
      clear hcell
      generalize nl[j] = x at c0 c1 HS hb1 hb2 hb3
      obtain ⟨x0, x1⟩ := x
      simp only at c0 c1 hb1 hb2 hb3
      have KA := Lib.hid (HK.out.alloc (.cells #[.int .i64 x0, .int .i64 x1] 42))
      have hw : wrap64 (x1 + 1) = x1 + 1 := IntWalk.wrap64_in _ (by omega)
      have HIN : Hid (inS t (x0, x1) = (decide (x0 ≤ t) && decide (t ≤ x1))) := Lib.hid rfl
      by_cases h1 : x0 ≤ t
      · by_cases h2 : t ≤ x1
        · have hres : freeT nl t = x1 + 1 := by rw [HC.out, HS.out, if_pos (by rw [HIN.out]; simp [h1, h2])]
          have KK : Kept (fun _ => False) w (wr.alloc (.cells #[.int .i64 x0, .int .i64 x1] 42)) := HK0.out.trans KA.out (fun _ _ h => h)
          have HKK := Lib.hid KK
          clear KK
          rcases hv2 : vld (x1 + 1) with _ | _
          · have HF2 : Hid (freeF l t = (0, false, 0)) := Lib.hid (by rw [HF.out]; simp only [hres, hv2]; rfl)
            have HV2 := Lib.hid hv2
            clear hv2 hres
            go_wp2_with (go_at_call 39; refine (valid_b false _ _ HV2.out).mono ?_; rintro e w3 ⟨rfl, rfl⟩)
            go_ret3
            exact ⟨by rw [HF2.out]; rfl, HKK.out⟩
          · have HF2 : Hid (freeF l t = ((x1 + 1), true, 0)) := Lib.hid (by rw [HF.out]; simp only [hres, hv2]; rfl)
            have HV2 := Lib.hid hv2
            clear hv2 hres
            go_wp2_with (go_at_call 39; refine (valid_b true _ _ HV2.out).mono ?_; rintro e w3 ⟨rfl, rfl⟩)
            go_ret3
            exact ⟨by rw [HF2.out]; rfl, HKK.out⟩
        · have hres : freeT nl t = freeT (nl.drop (j + 1)) t := by rw [HC.out, HS.out, if_neg (by rw [HIN.out]; simp [h2])]
          have HR := Lib.hid hres
          clear hres
          go_wp2
          go_roundw
          case rel => exact ⟨j + 1, by have := HLT.out; omega, by go_num, rfl, HR.out, KA.out⟩
          case measure => have := HLT.out; simp; omega
      · have hres : freeT nl t = freeT (nl.drop (j + 1)) t := by rw [HC.out, HS.out, if_neg (by rw [HIN.out]; simp [h1])]
        have HR := Lib.hid hres
        clear hres
        go_wp2
        go_roundw
        case rel => exact ⟨j + 1, by have := HLT.out; omega, by go_num, rfl, HR.out, KA.out⟩
        case measure => have := HLT.out; simp; omega
    · obtain rfl : n = j := by omega
      have hres : freeT nl t = t := by rw [HC.out, List.drop_eq_nil_of_le (by have := HN.out; omega)]; rfl
      have HF2 : Hid (freeF l t = (t, true, 0)) := Lib.hid (by rw [HF.out]; simp only [hres, HV.out]; rfl)
      clear hres
      go_wp2_with (go_at_call 39; refine (valid_b true _ _ HV.out).mono ?_; rintro e w3 ⟨rfl, rfl⟩)
      go_ret3
      exact ⟨by rw [HF2.out]; rfl, HK0.out.trans HK.out (fun _ _ h => h)⟩
theorem free_c {w : World} {v : Value} {l : List Sp} (h : Prs w v l) (h63 : (l.length : Int) ≤ 9223372036854775807) (t : Int) : Calls Try.prog 20 #[v, .int .i64 t] w (FreePost l t w) := by
  by_cases hz : chk l = 0
  · cases hv : vld t with
    | false => exact free_bad2 h h63 t hz hv
    | true => exact free_good h h63 t hz hv
  · exact free_bad h h63 t hz
end Go.Proofs.Ytaedijppbghnaaa
