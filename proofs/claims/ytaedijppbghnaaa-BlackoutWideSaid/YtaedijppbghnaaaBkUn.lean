/- Union, Meet, Without. -/
import Derived.Test.YtaedijppbghnaaaBkJoin
import Derived.Test.YtaedijppbghnaaaBkWant
namespace Go.Proofs.Ytaedijppbghnaaa
open Go.RowKit Go.Shelf
open Bk (Sp Ev ev0 ev1 evs grp chk)

theorem want36 (x y : Bool) (w : World) : Calls Try.prog 36 #[.bool x, .bool y] w fun e w' => e = .returned (.bool (wOr x y)) ∧ w = w' := by
  cases x <;> cases y <;>
  · go_enter Try.func36, Try.ntmps36
    go_wp2
    go_ret
    exact ⟨rfl, rfl⟩
theorem want37 (x y : Bool) (w : World) : Calls Try.prog 37 #[.bool x, .bool y] w fun e w' => e = .returned (.bool (wAnd x y)) ∧ w = w' := by
  cases x <;> cases y <;>
  · go_enter Try.func37, Try.ntmps37
    go_wp2
    go_ret
    exact ⟨rfl, rfl⟩
theorem want38 (x y : Bool) (w : World) : Calls Try.prog 38 #[.bool x, .bool y] w fun e w' => e = .returned (.bool (wNot x y)) ∧ w = w' := by
  cases x <;> cases y <;>
  · go_enter Try.func38, Try.ntmps38
    go_wp2
    go_ret
    exact ⟨rfl, rfl⟩

def err2 (a b : List Sp) : Int := if chk a ≠ 0 then chk a else chk b
/-- What a function of two lists hands back. -/
def ResPost (want : Bool → Bool → Bool) (a b : List Sp) (w : World) (e : Ending) (w' : World) : Prop :=
  ∃ v, e = .returned (.tuple #[v, .int .i64 (err2 a b)]) ∧ Prs w' v (if err2 a b = 0 then Bk.rres want a b else []) ∧ (∀ c, v.ownBlock = some c → w.heap.size ≤ c) ∧ Kept (fun _ => False) w w'

theorem join_res {want : Bool → Bool → Bool} (hw : want false false = false) {a b : List Sp} (ha : chk a = 0) (hb : chk b = 0) {w : World} {e : Ending} {w' : World} (h : JoinPost want a b w e w') :
    ∃ v, e = .returned v ∧ Prs w' v (Bk.rres want a b) ∧ (∀ c, v.ownBlock = some c → w.heap.size ≤ c) ∧ Kept (fun _ => False) w w' := by
  obtain ⟨v, s, rfl, hp, hs, hv, ho, K⟩ := h
  rw [Bk.join_ref want hw (Bk.chk_good.1 ha).2.le (Bk.chk_good.1 hb).2.le hp hs] at hv
  exact ⟨v, rfl, hv, ho, K⟩
theorem good_bd {a : List Sp} (ha : chk a = 0) : a.length ≤ 100000 ∧ ∀ s ∈ a, (0 ≤ s.1 ∧ s.1 ≤ s.2) ∧ s.2 ≤ 253402300799 := by
  have h := Bk.chk_good.1 ha
  exact ⟨by omega, fun s hs => ⟨⟨h.2.lo s hs, h.2.le s hs⟩, h.2.hi s hs⟩⟩
set_option maxHeartbeats 2000000 in
theorem both36_c {w : World} {va vb : Value} {a b : List Sp} (ha : Prs w va a) (hb : Prs w vb b) (h63 : (a.length : Int) ≤ 9223372036854775807) (g63 : (b.length : Int) ≤ 9223372036854775807) :
    Calls Try.prog 35 #[va, vb, .func (.func 36) #[] #[]] w (ResPost wOr a b w) := by
  have hca := fun W K => check_c (w := W) (ha.same K) h63
  have hcb := fun W K => check_c (w := W) (hb.same K) g63
  have hj : ∀ W, Kept (fun _ => False) w W → chk a = 0 → chk b = 0 → Calls Try.prog 52 #[va, vb, .func (.func 36) #[] #[]] W fun e w' => ∃ v, e = .returned v ∧ Prs w' v (Bk.rres wOr a b) ∧ (∀ c, v.ownBlock = some c → W.heap.size ≤ c) ∧ Kept (fun _ => False) W w' := fun W K h1 h2 =>
    Calls.mono (callsIn_wide.1 (join_in36 3 (by omega) wOr (Lib.hid fun x y w => want36 x y w) (ha.same K) (hb.same K) (good_bd h1).1 (good_bd h2).1 (good_bd h1).2 (good_bd h2).2)) fun e w' h => join_res rfl h1 h2 h
  have HCA := Lib.hid hca
  have HCB := Lib.hid hcb
  have HJ := Lib.hid hj
  have HE : Hid (err2 a b = if chk a ≠ 0 then chk a else chk b) := Lib.hid rfl
  obtain ⟨aa, ca, rfl⟩ := ha.len
  obtain ⟨ab, cb, rfl⟩ := hb.len
  clear hca hcb hj ha hb h63 g63
  have i0 := fun W => run_index1 (P := Try.prog) 65 23 2 #[.slice aa a.length ca, .slice ab b.length cb] 0 (.slice aa a.length ca) W Try.underlying65 Try.isAgg23 Try.sizeOf23 (by decide) rfl
  rw [show ((0 : Nat) : Int) = 0 from rfl] at i0
  have i1 := fun W => run_index1 (P := Try.prog) 65 23 2 #[.slice aa a.length ca, .slice ab b.length cb] 1 (.slice ab b.length cb) W Try.underlying65 Try.isAgg23 Try.sizeOf23 (by decide) rfl
  rw [show ((1 : Nat) : Int) = 1 from rfl] at i1
  obtain ⟨la, hla⟩ : ∃ n, a.length = n := ⟨_, rfl⟩
  obtain ⟨lb, hlb⟩ : ∃ n, b.length = n := ⟨_, rfl⟩
  rw [hla] at HCA HJ i0 i1 ⊢
  rw [hlb] at HCB HJ i0 i1 ⊢
  clear hla hlb
  go_enter Try.func35, Try.ntmps35
  go_wp2
  go_loopw [14] (fun i wr => Kept (fun _ => False) w wr ∧ (i = .int .i64 0 ∨ (i = .int .i64 1 ∧ chk a = 0) ∨ (i = .int .i64 2 ∧ chk a = 0 ∧ chk b = 0))) (fun i _ => match i with | .int _ x => (2 - x).toNat | _ => 0)
  case atStart => exact ⟨Kept.refl _ _, .inl rfl⟩
  case round =>
    obtain ⟨K, rfl | ⟨rfl, h1⟩ | ⟨rfl, h1, h2⟩⟩ := hrel
    · have HC := Lib.hid (HCA.out wr K)
      have HK := Lib.hid K
      clear K
      by_cases hz : chk a = 0
      · rw [hz] at HC
        have HZ := Lib.hid hz
        clear hz
        go_wp2_with (go_at_call 26; refine HC.out.mono ?_; rintro e w2 ⟨rfl, K2⟩)
        go_roundw
        case rel => exact ⟨HK.out.trans K2 (fun _ _ h => h), .inr (.inl ⟨rfl, HZ.out⟩)⟩
        case measure => simp
      · have HZ : Hid (err2 a b = chk a) := Lib.hid (by rw [HE.out, if_pos hz])
        obtain ⟨r, hr⟩ : ∃ r, chk a = r := ⟨_, rfl⟩
        rw [hr] at hz HC HZ
        have hz2 : (r != 0) = true := by simpa using hz
        go_wp2_with (go_at_call 26; refine HC.out.mono ?_; rintro e w2 ⟨rfl, K2⟩)
        go_ret2
        exact ⟨.slice none 0 0, by rw [HZ.out]; rfl, by rw [HZ.out, if_neg hz]; exact Prs.nil _ _ _, (by intro c h; cases h), HK.out.trans K2 (fun _ _ h => h)⟩
    · have HC := Lib.hid (HCB.out wr K)
      have HK := Lib.hid (And.intro K h1)
      clear K h1
      by_cases hz : chk b = 0
      · rw [hz] at HC
        have HZ := Lib.hid hz
        clear hz
        go_wp2_with (go_at_call 26; refine HC.out.mono ?_; rintro e w2 ⟨rfl, K2⟩)
        go_roundw
        case rel => exact ⟨HK.out.1.trans K2 (fun _ _ h => h), .inr (.inr ⟨rfl, HK.out.2, HZ.out⟩)⟩
        case measure => simp
      · have HZ : Hid (err2 a b = chk b) := Lib.hid (by rw [HE.out, if_neg (by simp [HK.out.2])])
        obtain ⟨r, hr⟩ : ∃ r, chk b = r := ⟨_, rfl⟩
        rw [hr] at hz HC HZ
        have hz2 : (r != 0) = true := by simpa using hz
        go_wp2_with (go_at_call 26; refine HC.out.mono ?_; rintro e w2 ⟨rfl, K2⟩)
        go_ret2
        exact ⟨.slice none 0 0, by rw [HZ.out]; rfl, by rw [HZ.out, if_neg hz]; exact Prs.nil _ _ _, (by intro c h; cases h), HK.out.1.trans K2 (fun _ _ h => h)⟩
    · have HC := Lib.hid (HJ.out wr K h1 h2)
      have HZ : Hid (err2 a b = 0) := Lib.hid (by rw [HE.out, if_neg (by simp [h1]), h2])
      have HK := Lib.hid K
      clear K h1 h2
      go_wp2_with (go_at_call 52; refine HC.out.mono ?_; rintro e w2 ⟨v, rfl, hv, ho, K2⟩)
      go_ret2
      exact ⟨v, by rw [HZ.out]; rfl, by rw [HZ.out, if_pos rfl]; exact hv, fun c h => Nat.le_trans HK.out.size (ho c h), HK.out.trans K2 (fun _ _ h => h)⟩
theorem op13_c {w : World} {va vb : Value} {a b : List Sp} (ha : Prs w va a) (hb : Prs w vb b) (h63 : (a.length : Int) ≤ 9223372036854775807) (g63 : (b.length : Int) ≤ 9223372036854775807) :
    Calls Try.prog 13 #[va, vb] w (ResPost wOr a b w) := by
  have HB := Lib.hid (both36_c ha hb h63 g63)
  obtain ⟨aa, ca, rfl⟩ := ha.len
  obtain ⟨ab, cb, rfl⟩ := hb.len
  clear ha hb h63 g63
  go_enter Try.func13, Try.ntmps13
  go_wp2_with (go_at_call 35; refine HB.out.mono ?_; rintro e w2 ⟨v, rfl, hv, ho, K⟩)
  go_ret2
  exact ⟨v, rfl, hv, ho, K⟩
set_option maxHeartbeats 2000000 in
theorem both37_c {w : World} {va vb : Value} {a b : List Sp} (ha : Prs w va a) (hb : Prs w vb b) (h63 : (a.length : Int) ≤ 9223372036854775807) (g63 : (b.length : Int) ≤ 9223372036854775807) :
    Calls Try.prog 35 #[va, vb, .func (.func 37) #[] #[]] w (ResPost wAnd a b w) := by
  have hca := fun W K => check_c (w := W) (ha.same K) h63
  have hcb := fun W K => check_c (w := W) (hb.same K) g63
  have hj : ∀ W, Kept (fun _ => False) w W → chk a = 0 → chk b = 0 → Calls Try.prog 52 #[va, vb, .func (.func 37) #[] #[]] W fun e w' => ∃ v, e = .returned v ∧ Prs w' v (Bk.rres wAnd a b) ∧ (∀ c, v.ownBlock = some c → W.heap.size ≤ c) ∧ Kept (fun _ => False) W w' := fun W K h1 h2 =>
    Calls.mono (callsIn_wide.1 (join_in37 3 (by omega) wAnd (Lib.hid fun x y w => want37 x y w) (ha.same K) (hb.same K) (good_bd h1).1 (good_bd h2).1 (good_bd h1).2 (good_bd h2).2)) fun e w' h => join_res rfl h1 h2 h
  have HCA := Lib.hid hca
  have HCB := Lib.hid hcb
  have HJ := Lib.hid hj
  have HE : Hid (err2 a b = if chk a ≠ 0 then chk a else chk b) := Lib.hid rfl
  obtain ⟨aa, ca, rfl⟩ := ha.len
  obtain ⟨ab, cb, rfl⟩ := hb.len
  clear hca hcb hj ha hb h63 g63
  have i0 := fun W => run_index1 (P := Try.prog) 65 23 2 #[.slice aa a.length ca, .slice ab b.length cb] 0 (.slice aa a.length ca) W Try.underlying65 Try.isAgg23 Try.sizeOf23 (by decide) rfl
  rw [show ((0 : Nat) : Int) = 0 from rfl] at i0
  have i1 := fun W => run_index1 (P := Try.prog) 65 23 2 #[.slice aa a.length ca, .slice ab b.length cb] 1 (.slice ab b.length cb) W Try.underlying65 Try.isAgg23 Try.sizeOf23 (by decide) rfl
  rw [show ((1 : Nat) : Int) = 1 from rfl] at i1
  obtain ⟨la, hla⟩ : ∃ n, a.length = n := ⟨_, rfl⟩
  obtain ⟨lb, hlb⟩ : ∃ n, b.length = n := ⟨_, rfl⟩
  rw [hla] at HCA HJ i0 i1 ⊢
  rw [hlb] at HCB HJ i0 i1 ⊢
  clear hla hlb
  go_enter Try.func35, Try.ntmps35
  go_wp2
  go_loopw [14] (fun i wr => Kept (fun _ => False) w wr ∧ (i = .int .i64 0 ∨ (i = .int .i64 1 ∧ chk a = 0) ∨ (i = .int .i64 2 ∧ chk a = 0 ∧ chk b = 0))) (fun i _ => match i with | .int _ x => (2 - x).toNat | _ => 0)
  case atStart => exact ⟨Kept.refl _ _, .inl rfl⟩
  case round =>
    obtain ⟨K, rfl | ⟨rfl, h1⟩ | ⟨rfl, h1, h2⟩⟩ := hrel
    · have HC := Lib.hid (HCA.out wr K)
      have HK := Lib.hid K
      clear K
      by_cases hz : chk a = 0
      · rw [hz] at HC
        have HZ := Lib.hid hz
        clear hz
        go_wp2_with (go_at_call 26; refine HC.out.mono ?_; rintro e w2 ⟨rfl, K2⟩)
        go_roundw
        case rel => exact ⟨HK.out.trans K2 (fun _ _ h => h), .inr (.inl ⟨rfl, HZ.out⟩)⟩
        case measure => simp
      · have HZ : Hid (err2 a b = chk a) := Lib.hid (by rw [HE.out, if_pos hz])
        obtain ⟨r, hr⟩ : ∃ r, chk a = r := ⟨_, rfl⟩
        rw [hr] at hz HC HZ
        have hz2 : (r != 0) = true := by simpa using hz
        go_wp2_with (go_at_call 26; refine HC.out.mono ?_; rintro e w2 ⟨rfl, K2⟩)
        go_ret2
        exact ⟨.slice none 0 0, by rw [HZ.out]; rfl, by rw [HZ.out, if_neg hz]; exact Prs.nil _ _ _, (by intro c h; cases h), HK.out.trans K2 (fun _ _ h => h)⟩
    · have HC := Lib.hid (HCB.out wr K)
      have HK := Lib.hid (And.intro K h1)
      clear K h1
      by_cases hz : chk b = 0
      · rw [hz] at HC
        have HZ := Lib.hid hz
        clear hz
        go_wp2_with (go_at_call 26; refine HC.out.mono ?_; rintro e w2 ⟨rfl, K2⟩)
        go_roundw
        case rel => exact ⟨HK.out.1.trans K2 (fun _ _ h => h), .inr (.inr ⟨rfl, HK.out.2, HZ.out⟩)⟩
        case measure => simp
      · have HZ : Hid (err2 a b = chk b) := Lib.hid (by rw [HE.out, if_neg (by simp [HK.out.2])])
        obtain ⟨r, hr⟩ : ∃ r, chk b = r := ⟨_, rfl⟩
        rw [hr] at hz HC HZ
        have hz2 : (r != 0) = true := by simpa using hz
        go_wp2_with (go_at_call 26; refine HC.out.mono ?_; rintro e w2 ⟨rfl, K2⟩)
        go_ret2
        exact ⟨.slice none 0 0, by rw [HZ.out]; rfl, by rw [HZ.out, if_neg hz]; exact Prs.nil _ _ _, (by intro c h; cases h), HK.out.1.trans K2 (fun _ _ h => h)⟩
    · have HC := Lib.hid (HJ.out wr K h1 h2)
      have HZ : Hid (err2 a b = 0) := Lib.hid (by rw [HE.out, if_neg (by simp [h1]), h2])
      have HK := Lib.hid K
      clear K h1 h2
      go_wp2_with (go_at_call 52; refine HC.out.mono ?_; rintro e w2 ⟨v, rfl, hv, ho, K2⟩)
      go_ret2
      exact ⟨v, by rw [HZ.out]; rfl, by rw [HZ.out, if_pos rfl]; exact hv, fun c h => Nat.le_trans HK.out.size (ho c h), HK.out.trans K2 (fun _ _ h => h)⟩
theorem op14_c {w : World} {va vb : Value} {a b : List Sp} (ha : Prs w va a) (hb : Prs w vb b) (h63 : (a.length : Int) ≤ 9223372036854775807) (g63 : (b.length : Int) ≤ 9223372036854775807) :
    Calls Try.prog 14 #[va, vb] w (ResPost wAnd a b w) := by
  have HB := Lib.hid (both37_c ha hb h63 g63)
  obtain ⟨aa, ca, rfl⟩ := ha.len
  obtain ⟨ab, cb, rfl⟩ := hb.len
  clear ha hb h63 g63
  go_enter Try.func14, Try.ntmps14
  go_wp2_with (go_at_call 35; refine HB.out.mono ?_; rintro e w2 ⟨v, rfl, hv, ho, K⟩)
  go_ret2
  exact ⟨v, rfl, hv, ho, K⟩
set_option maxHeartbeats 2000000 in
theorem both38_c {w : World} {va vb : Value} {a b : List Sp} (ha : Prs w va a) (hb : Prs w vb b) (h63 : (a.length : Int) ≤ 9223372036854775807) (g63 : (b.length : Int) ≤ 9223372036854775807) :
    Calls Try.prog 35 #[va, vb, .func (.func 38) #[] #[]] w (ResPost wNot a b w) := by
  have hca := fun W K => check_c (w := W) (ha.same K) h63
  have hcb := fun W K => check_c (w := W) (hb.same K) g63
  have hj : ∀ W, Kept (fun _ => False) w W → chk a = 0 → chk b = 0 → Calls Try.prog 52 #[va, vb, .func (.func 38) #[] #[]] W fun e w' => ∃ v, e = .returned v ∧ Prs w' v (Bk.rres wNot a b) ∧ (∀ c, v.ownBlock = some c → W.heap.size ≤ c) ∧ Kept (fun _ => False) W w' := fun W K h1 h2 =>
    Calls.mono (callsIn_wide.1 (join_in38 3 (by omega) wNot (Lib.hid fun x y w => want38 x y w) (ha.same K) (hb.same K) (good_bd h1).1 (good_bd h2).1 (good_bd h1).2 (good_bd h2).2)) fun e w' h => join_res rfl h1 h2 h
  have HCA := Lib.hid hca
  have HCB := Lib.hid hcb
  have HJ := Lib.hid hj
  have HE : Hid (err2 a b = if chk a ≠ 0 then chk a else chk b) := Lib.hid rfl
  obtain ⟨aa, ca, rfl⟩ := ha.len
  obtain ⟨ab, cb, rfl⟩ := hb.len
  clear hca hcb hj ha hb h63 g63
  have i0 := fun W => run_index1 (P := Try.prog) 65 23 2 #[.slice aa a.length ca, .slice ab b.length cb] 0 (.slice aa a.length ca) W Try.underlying65 Try.isAgg23 Try.sizeOf23 (by decide) rfl
  rw [show ((0 : Nat) : Int) = 0 from rfl] at i0
  have i1 := fun W => run_index1 (P := Try.prog) 65 23 2 #[.slice aa a.length ca, .slice ab b.length cb] 1 (.slice ab b.length cb) W Try.underlying65 Try.isAgg23 Try.sizeOf23 (by decide) rfl
  rw [show ((1 : Nat) : Int) = 1 from rfl] at i1
  obtain ⟨la, hla⟩ : ∃ n, a.length = n := ⟨_, rfl⟩
  obtain ⟨lb, hlb⟩ : ∃ n, b.length = n := ⟨_, rfl⟩
  rw [hla] at HCA HJ i0 i1 ⊢
  rw [hlb] at HCB HJ i0 i1 ⊢
  clear hla hlb
  go_enter Try.func35, Try.ntmps35
  go_wp2
  go_loopw [14] (fun i wr => Kept (fun _ => False) w wr ∧ (i = .int .i64 0 ∨ (i = .int .i64 1 ∧ chk a = 0) ∨ (i = .int .i64 2 ∧ chk a = 0 ∧ chk b = 0))) (fun i _ => match i with | .int _ x => (2 - x).toNat | _ => 0)
  case atStart => exact ⟨Kept.refl _ _, .inl rfl⟩
  case round =>
    obtain ⟨K, rfl | ⟨rfl, h1⟩ | ⟨rfl, h1, h2⟩⟩ := hrel
    · have HC := Lib.hid (HCA.out wr K)
      have HK := Lib.hid K
      clear K
      by_cases hz : chk a = 0
      · rw [hz] at HC
        have HZ := Lib.hid hz
        clear hz
        go_wp2_with (go_at_call 26; refine HC.out.mono ?_; rintro e w2 ⟨rfl, K2⟩)
        go_roundw
        case rel => exact ⟨HK.out.trans K2 (fun _ _ h => h), .inr (.inl ⟨rfl, HZ.out⟩)⟩
        case measure => simp
      · have HZ : Hid (err2 a b = chk a) := Lib.hid (by rw [HE.out, if_pos hz])
        obtain ⟨r, hr⟩ : ∃ r, chk a = r := ⟨_, rfl⟩
        rw [hr] at hz HC HZ
        have hz2 : (r != 0) = true := by simpa using hz
        go_wp2_with (go_at_call 26; refine HC.out.mono ?_; rintro e w2 ⟨rfl, K2⟩)
        go_ret2
        exact ⟨.slice none 0 0, by rw [HZ.out]; rfl, by rw [HZ.out, if_neg hz]; exact Prs.nil _ _ _, (by intro c h; cases h), HK.out.trans K2 (fun _ _ h => h)⟩
    · have HC := Lib.hid (HCB.out wr K)
      have HK := Lib.hid (And.intro K h1)
      clear K h1
      by_cases hz : chk b = 0
      · rw [hz] at HC
        have HZ := Lib.hid hz
        clear hz
        go_wp2_with (go_at_call 26; refine HC.out.mono ?_; rintro e w2 ⟨rfl, K2⟩)
        go_roundw
        case rel => exact ⟨HK.out.1.trans K2 (fun _ _ h => h), .inr (.inr ⟨rfl, HK.out.2, HZ.out⟩)⟩
        case measure => simp
      · have HZ : Hid (err2 a b = chk b) := Lib.hid (by rw [HE.out, if_neg (by simp [HK.out.2])])
        obtain ⟨r, hr⟩ : ∃ r, chk b = r := ⟨_, rfl⟩
        rw [hr] at hz HC HZ
        have hz2 : (r != 0) = true := by simpa using hz
        go_wp2_with (go_at_call 26; refine HC.out.mono ?_; rintro e w2 ⟨rfl, K2⟩)
        go_ret2
        exact ⟨.slice none 0 0, by rw [HZ.out]; rfl, by rw [HZ.out, if_neg hz]; exact Prs.nil _ _ _, (by intro c h; cases h), HK.out.1.trans K2 (fun _ _ h => h)⟩
    · have HC := Lib.hid (HJ.out wr K h1 h2)
      have HZ : Hid (err2 a b = 0) := Lib.hid (by rw [HE.out, if_neg (by simp [h1]), h2])
      have HK := Lib.hid K
      clear K h1 h2
      go_wp2_with (go_at_call 52; refine HC.out.mono ?_; rintro e w2 ⟨v, rfl, hv, ho, K2⟩)
      go_ret2
      exact ⟨v, by rw [HZ.out]; rfl, by rw [HZ.out, if_pos rfl]; exact hv, fun c h => Nat.le_trans HK.out.size (ho c h), HK.out.trans K2 (fun _ _ h => h)⟩
theorem op15_c {w : World} {va vb : Value} {a b : List Sp} (ha : Prs w va a) (hb : Prs w vb b) (h63 : (a.length : Int) ≤ 9223372036854775807) (g63 : (b.length : Int) ≤ 9223372036854775807) :
    Calls Try.prog 15 #[va, vb] w (ResPost wNot a b w) := by
  have HB := Lib.hid (both38_c ha hb h63 g63)
  obtain ⟨aa, ca, rfl⟩ := ha.len
  obtain ⟨ab, cb, rfl⟩ := hb.len
  clear ha hb h63 g63
  go_enter Try.func15, Try.ntmps15
  go_wp2_with (go_at_call 35; refine HB.out.mono ?_; rintro e w2 ⟨v, rfl, hv, ho, K⟩)
  go_ret2
  exact ⟨v, rfl, hv, ho, K⟩
end Go.Proofs.Ytaedijppbghnaaa
