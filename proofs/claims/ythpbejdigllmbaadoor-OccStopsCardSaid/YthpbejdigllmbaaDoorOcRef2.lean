/- OcRef2: texts for the statements of this seat: contracts of functions, walks, plain laws. Conditions: none. -/
import Derived.Test.YthpbejdigllmbaaDoorOcRef
import Derived.Test.YthpbejdigllmbaaDoorGeMake
namespace Go.Proofs.YthpbejdigllmbaaDoor
open Go.RowKit

theorem rstep_yes (s t : Int) (w : World) (h1 : isSt s = true) (h2 : isSp t = true) :
    Calls Tryd.prog 19 #[.int .i64 s, .int .i64 t] w fun e w' => e = .returned (.tuple #[.int .i64 (stepF s t).1, .int .i64 (stepF s t).2]) ∧ w = w' := by
  have HS := Lib.hid (known_b true s · h1)
  have HL := Lib.hid (rlead_c s t · h1 h2)
  have HF := Lib.hid (show stepF s t = if lead s t = -1 then (0, 9) else (lead s t, 0) by unfold stepF; rw [h1, h2]; rfl)
  have hb := lead_bd h1 h2
  have hb2 : 1 ≤ t ∧ t < 7 := by simpa [isSp] using h2
  obtain ⟨c1, c2⟩ := hb2
  have c3 : ¬ t < 1 := by omega
  have c4 : ¬ 6 < t := by omega
  generalize lead s t = v at HL HF hb
  obtain ⟨b1, b2⟩ := hb
  clear h1 h2 c1 c2
  by_cases hv : v = -1
  · subst hv
    go_enter Tryd.func19, Tryd.ntmps19
    go_wp2_with (first | (go_at_call 44; refine (HS.out _).mono ?_; rintro e w' ⟨rfl, rfl⟩) | (go_at_call 38; refine (HL.out _).mono ?_; rintro e w' ⟨rfl, rfl⟩))
    go_ret2
    exact ⟨by rw [HF.out]; rfl, rfl⟩
  · have hq : ¬ v < 0 := by omega
    have HV := Lib.hid hv
    clear hv
    go_enter Tryd.func19, Tryd.ntmps19
    go_wp2_with (first | (go_at_call 44; refine (HS.out _).mono ?_; rintro e w' ⟨rfl, rfl⟩) | (go_at_call 38; refine (HL.out _).mono ?_; rintro e w' ⟨rfl, rfl⟩))
    go_ret2
    exact ⟨by rw [HF.out]; simp [HV.out], rfl⟩
theorem rstep_no (s t : Int) (w : World) (h : ¬ (isSt s = true ∧ isSp t = true)) :
    Calls Tryd.prog 19 #[.int .i64 s, .int .i64 t] w fun e w' => e = .returned (.tuple #[.int .i64 (stepF s t).1, .int .i64 (stepF s t).2]) ∧ w = w' := by
  have hF : stepF s t = (0, 3) := by
    unfold stepF; rw [if_neg]; simp; intro h1; simpa [h1] using h
  rw [hF]
  by_cases h1 : isSt s = true
  · have HS := Lib.hid (known_b true s · h1)
    by_cases ht : t < 1
    · clear hF h h1
      go_enter Tryd.func19, Tryd.ntmps19
      go_wp2_with (go_at_call 44; refine (HS.out _).mono ?_; rintro e w' ⟨rfl, rfl⟩)
      go_ret2
      exact ⟨rfl, rfl⟩
    · have ht2 : 6 < t := by
        have : ¬ isSp t = true := fun q => h ⟨h1, q⟩
        simp [isSp] at this; omega
      clear hF h h1
      go_enter Tryd.func19, Tryd.ntmps19
      go_wp2_with (go_at_call 44; refine (HS.out _).mono ?_; rintro e w' ⟨rfl, rfl⟩)
      go_ret2
      exact ⟨rfl, rfl⟩
  · have h2 : isSt s = false := by simpa using h1
    have HS := Lib.hid (known_b false s · h2)
    clear hF h h1 h2
    go_enter Tryd.func19, Tryd.ntmps19
    go_wp2_with (go_at_call 44; refine (HS.out _).mono ?_; rintro e w' ⟨rfl, rfl⟩)
    go_ret2
    exact ⟨rfl, rfl⟩
theorem rstep_c (s t n e : Int) (w : World) (h : stepF s t = (n, e)) :
    Calls Tryd.prog 19 #[.int .i64 s, .int .i64 t] w fun r w' => r = .returned (.tuple #[.int .i64 n, .int .i64 e]) ∧ w = w' := by
  have : Calls Tryd.prog 19 #[.int .i64 s, .int .i64 t] w fun e w' => e = .returned (.tuple #[.int .i64 (stepF s t).1, .int .i64 (stepF s t).2]) ∧ w = w' := by
    by_cases hh : isSt s = true ∧ isSp t = true
    · exact rstep_yes s t w hh.1 hh.2
    · exact rstep_no s t w hh
  rw [h] at this
  exact this
theorem rends_c (s : Int) (b : Bool) (e : Int) (w : World) (h : endsF s = (b, e)) :
    Calls Tryd.prog 21 #[.int .i64 s] w fun r w' => r = .returned (.tuple #[.bool b, .int .i64 e]) ∧ w = w' := by
  cases hs : isSt s with
  | true =>
    have HS := Lib.hid (known_b true s · hs)
    have hF : (decide (s = 5 ∨ s = 6), (0 : Int)) = (b, e) := by rw [← h]; unfold endsF; rw [hs]; rfl
    simp only [Prod.mk.injEq] at hF
    obtain ⟨rfl, rfl⟩ := hF
    clear h hs
    by_cases h5 : s = 5
    · subst h5
      go_enter Tryd.func21, Tryd.ntmps21
      go_wp2_with (go_at_call 44; refine (HS.out _).mono ?_; rintro e w' ⟨rfl, rfl⟩)
      go_ret2
      exact ⟨rfl, rfl⟩
    · have hq : (s == 5) = false := by simpa using h5
      have H5 := Lib.hid h5
      clear h5
      go_enter Tryd.func21, Tryd.ntmps21
      go_wp2_with (go_at_call 44; refine (HS.out _).mono ?_; rintro e w' ⟨rfl, rfl⟩)
      go_ret2
      refine ⟨?_, rfl⟩
      by_cases h6 : s = 6 <;> simp [h6, H5.out]
  | false =>
    have HS := Lib.hid (known_b false s · hs)
    have hF : (false, (3 : Int)) = (b, e) := by rw [← h]; unfold endsF; rw [hs]; rfl
    simp only [Prod.mk.injEq] at hF
    obtain ⟨rfl, rfl⟩ := hF
    clear h hs
    go_enter Tryd.func21, Tryd.ntmps21
    go_wp2_with (go_at_call 44; refine (HS.out _).mono ?_; rintro e w' ⟨rfl, rfl⟩)
    go_ret2
    exact ⟨rfl, rfl⟩
theorem rname_c (s : Int) (l : List UInt8) (e : Int) (w : World) (h : nameF s = (l, e)) :
    Calls Tryd.prog 27 #[.int .i64 s] w fun r w' => r = .returned (.tuple #[.string ⟨l.toArray⟩, .int .i64 e]) ∧ Kept (fun _ => False) w w' := by
  cases hs : isSt s with
  | true =>
    have HS := Lib.hid (known_b true s · hs)
    have hF : (nameL.getD s.toNat [], (0 : Int)) = (l, e) := by rw [← h]; unfold nameF; rw [hs]; rfl
    simp only [Prod.mk.injEq] at hF
    obtain ⟨rfl, rfl⟩ := hF
    simp [isSt] at hs
    obtain ⟨b1, b2⟩ := hs
    obtain ⟨m, rfl⟩ := Int.eq_ofNat_of_zero_le b1
    have R : RowAt (w.alloc (.cells (((List.range 7).map fun k => Value.string ⟨(nameL.getD k []).toArray⟩).toArray) 9)) w.heap.size ((List.range 7).map fun k => Value.string ⟨(nameL.getD k []).toArray⟩) := RowAt.new w 9 _
    have hc := R.get (j := m) (v := .string ⟨(nameL.getD m []).toArray⟩) (by
      have : m < 7 := by omega
      simp [this])
    have KA : Kept (fun _ => False) w (w.alloc (.cells (((List.range 7).map fun k => Value.string ⟨(nameL.getD k []).toArray⟩).toArray) 9)) := (Kept.refl _ w).alloc _
    have HK := Lib.hid KA
    obtain ⟨W1, hW1⟩ : ∃ W1, w.alloc (.cells (((List.range 7).map fun k => Value.string ⟨(nameL.getD k []).toArray⟩).toArray) 9) = W1 := ⟨_, rfl⟩
    rw [hW1] at hc HK
    have hW2 : w.alloc (.cells #[.string ⟨#[110, 101, 119]⟩, .string ⟨#[116, 105, 109, 101, 114]⟩, .string ⟨#[114, 101, 97, 100, 121]⟩, .string ⟨#[114, 117, 110, 110, 105, 110, 103]⟩, .string ⟨#[119, 97, 105, 116, 105, 110, 103]⟩, .string ⟨#[100, 111, 110, 101]⟩, .string ⟨#[100, 114, 111, 112, 112, 101, 100]⟩] 9) = W1 := hW1
    have hm7 : m < 7 := by omega
    clear h R KA hW1
    rw [Int.toNat_natCast]
    generalize nameL.getD m [] = q at hc ⊢
    go_enter Tryd.func27, Tryd.ntmps27
    go_wp2_with (go_at_call 44; refine (HS.out _).mono ?_; rintro e w' ⟨rfl, rfl⟩)
    go_ret2
    exact ⟨rfl, HK.out⟩
  | false =>
    have HS := Lib.hid (known_b false s · hs)
    have hF : (([] : List UInt8), (3 : Int)) = (l, e) := by rw [← h]; unfold nameF; rw [hs]; rfl
    simp only [Prod.mk.injEq] at hF
    obtain ⟨rfl, rfl⟩ := hF
    clear h hs
    go_enter Tryd.func27, Tryd.ntmps27
    go_wp2_with (go_at_call 44; refine (HS.out _).mono ?_; rintro e w' ⟨rfl, rfl⟩)
    go_ret2
    exact ⟨rfl, Kept.refl _ _⟩

set_option maxHeartbeats 1000000 in
theorem rsteps_yes (s : Int) (w : World) (hs : isSt s = true) : Calls Tryd.prog 23 #[.int .i64 s] w (StepsPost (stepsUpTo s.toNat 6) 0 w) := by
  have HS := Lib.hid (known_b true s · hs)
  have hb : 0 ≤ s ∧ s < 7 := by simpa [isSt] using hs
  obtain ⟨b1, b2⟩ := hb
  have HSS := Lib.hid hs
  clear hs
  go_enter Tryd.func23, Tryd.ntmps23
  go_wp2_with (go_at_call 44; refine (HS.out _).mono ?_; rintro e w' ⟨rfl, rfl⟩)
  go_loopw [4, 5] (fun v i wr => ∃ t : Nat, 1 ≤ t ∧ t ≤ 7 ∧ i = .int .i64 t ∧ wr.ownsRow w.heap.size 3 1 v (stepsUpTo s.toNat (t - 1)).length ((stepsUpTo s.toNat (t - 1)).map (Value.int .i64)) ∧ Kept (fun _ => False) w wr)
    (fun _ i _ => 7 - (intOf i).toNat)
  case atStart => exact ⟨1, by omega, by omega, rfl, World.ownsRow_nil _ _ _ _, Kept.refl _ _⟩
  case round =>
    obtain ⟨t, ht1, ht7, rfl, hown, K⟩ := hrel
    have hla := K.size
    by_cases hlt : t < 7
    · obtain ⟨k, hk⟩ : ∃ k, t - 1 = k := ⟨_, rfl⟩
      have hk2 : t + 1 - 1 = k + 1 := by omega
      rw [hk] at hown
      have HL := Lib.hid (rlead_b (leadN s.toNat k) s t · HSS.out (by simp [isSp]; omega) (by unfold lead; congr 1))
      have hsl := stepsUpTo_len s.toNat k
      have hk6 : k < 6 := by omega
      have HK2 := Lib.hid hk2
      have hbd := leadN_bd ⟨s.toNat, by omega⟩ ⟨k, by omega⟩
      simp only at hbd
      clear hk hk2
      by_cases hq : leadN s.toNat k = -1
      · have HQ := Lib.hid (stepsUpTo_no hq)
        rw [hq] at HL
        clear hq hbd
        go_wp2_with (go_at_call 38; refine (HL.out _).mono ?_; rintro e w' ⟨rfl, rfl⟩)
        go_roundw
        case rel => exact ⟨t + 1, by omega, by omega, by go_num, by rw [HK2.out, HQ.out]; exact hown, K⟩
        case measure => simp [intOf]; omega
      · have HQ := Lib.hid (stepsUpTo_yes hq)
        have hq0 : 0 ≤ leadN s.toNat k := by omega
        have hqt : (t : Int) = (k : Int) + 1 := by have := HK2.out; omega
        have HQT := Lib.hid hqt
        clear hq hbd hqt
        generalize leadN s.toNat k = q at HL hq0
        go_wp2_with (first | (go_at_call 38; refine (HL.out _).mono ?_; rintro e w' ⟨rfl, rfl⟩) | (at_builtin; refine wpList_app1 el27 rfl _ _ rfl w.heap.size u4 (stepsUpTo s.toNat k).length ((stepsUpTo s.toNat k).map (Value.int .i64)) rfl hown rfl rfl ?c1 ?c2 ?c3 ?c4 ?_))
        case c1 => intro u hu; simp at hu; subst hu; rfl
        case c2 => unfold maxLen; omega
        case c3 => omega
        case c4 => omega
        intro g cap w3 hown3 K3
        have hown4 : w3.ownsRow w.heap.size 3 1 (.slice (some ⟨g, 0, none⟩) ((stepsUpTo s.toNat k).length + 1) cap) (stepsUpTo s.toNat (t + 1 - 1)).length ((stepsUpTo s.toNat (t + 1 - 1)).map (Value.int .i64)) := by
          rw [HK2.out, HQ.out, List.map_append, List.length_append, ← HQT.out]; exact hown3
        have KK := K.trans K3 (fun i hi h => by have := (ownsRow_block hown h).1; omega)
        have HX := Lib.hid (And.intro hown4 KK)
        clear hown hown3 hown4 K3 K KK
        go_wp2
        go_roundw
        case rel => exact ⟨t + 1, by omega, by omega, by go_num, HX.out.1, HX.out.2⟩
        case measure => simp [intOf]; omega
    · obtain rfl : t = 7 := by omega
      go_wp2
      go_ret2
      exact ⟨_, rfl, hown, K⟩
theorem rsteps_no (s : Int) (w : World) (hs : isSt s = false) : Calls Tryd.prog 23 #[.int .i64 s] w (StepsPost [] 3 w) := by
  have HS := Lib.hid (known_b false s · hs)
  clear hs
  go_enter Tryd.func23, Tryd.ntmps23
  go_wp2_with (go_at_call 44; refine (HS.out _).mono ?_; rintro e w' ⟨rfl, rfl⟩)
  go_ret2
  exact ⟨_, rfl, World.ownsRow_nil _ _ _ _, Kept.refl _ _⟩
theorem rsteps_c (s : Int) (l : List Int) (e : Int) (w : World) (h : stepsF s = (l, e)) : Calls Tryd.prog 23 #[.int .i64 s] w (StepsPost l e w) := by
  unfold stepsF at h
  split at h
  · obtain ⟨rfl, rfl⟩ := Prod.mk.inj h; exact rsteps_yes s w (by assumption)
  · rename_i hh; obtain ⟨rfl, rfl⟩ := Prod.mk.inj h; exact rsteps_no s w (by simpa using hh)
end Go.Proofs.YthpbejdigllmbaaDoor
