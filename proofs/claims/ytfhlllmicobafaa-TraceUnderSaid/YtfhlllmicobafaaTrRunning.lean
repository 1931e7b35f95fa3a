/- TrRunning: texts for the statements of this seat: contracts of functions, walks, plain laws. Conditions: none. -/
import Derived.Test.YtfhlllmicobafaaTrWalkR
import Derived.Test.YtfhlllmicobafaaTrSort
set_option linter.all false
/- Running. -/
namespace Go.Proofs.Ytfhlllmicobafaa
open Go.RowKit
open Tr (Ev)

/-- The runs under way after n events. -/
def runs (l : List Ev) (n : Nat) : List Int := (Tr.und (l.take n)).map (·.run)
abbrev IRO3 (w wk : World) (v : Value) (xs : List Int) : Prop := RO (fun x : Int => [Value.int .i64 x]) 1 3 w wk v xs
def RunsPost (l : List Ev) (n : Int) (w : World) (r : Ending) (w' : World) : Prop := ∃ v, r = .returned (.tuple #[v, .int .i64 (wrongE l n 0 l.length)]) ∧ IRO3 w w' v (if wrongE l n 0 l.length = 0 then runs l n.toNat else [])
theorem runs_sorted {l : List Ev} (h : Tr.Ok 64 l) (n : Nat) : (runs l n).Pairwise (· < ·) := by
  have := (Tr.last_nonneg _ (h.take n)).2.2.1
  unfold runs
  rw [List.pairwise_map]
  exact this
theorem nodup_of_lt {a : List Int} (h : a.Pairwise (· < ·)) : a.Nodup := h.imp fun h => by omega
theorem perm_of {a b : List Int} (ha : a.Nodup) (hb : b.Nodup) (h : ∀ z, z ∈ a ↔ z ∈ b) : a.Perm b := (List.perm_ext_iff_of_nodup ha hb).2 h
/-- What was collected, once sorted. -/
theorem srt_runs {l : List Ev} (h : Tr.Ok 64 l) (hw : EvW l) {n : Nat} {ks : List Int} (h1 : ks.Nodup) (h2 : ∀ s ∈ ks, (Tr.look (Tr.und (l.take n)) s).isSome = true) (h3 : ∀ s, Wf s → (Tr.look (Tr.und (l.take n)) s).isSome = true → s ∈ ks) : srt ks = runs l n := by
  have hs := runs_sorted h n
  have hp : ks.Perm (runs l n) := perm_of h1 (nodup_of_lt hs) fun z => by
    unfold runs
    rw [List.mem_map]
    constructor
    · intro hz
      obtain ⟨e, he⟩ := Option.isSome_iff_exists.1 (h2 z hz)
      obtain ⟨m1, m2⟩ := Tr.look_mem he
      exact ⟨e, m1, m2⟩
    · rintro ⟨e, he, rfl⟩
      have hm := (Tr.last_nonneg _ (h.take n)).2.2.2 e he
      exact h3 e.run (hw e (List.mem_of_mem_take hm.2.2.2)) (by rw [Tr.look_of_mem (Tr.last_nonneg _ (h.take n)).2.2.1 he]; rfl)
  exact Tr.perm_sorted ((srt_perm ks).trans hp) (srt_sorted ks) (hs.imp fun h => by omega)
theorem walk0_c (aa : Option Addr) (cap : Nat) (fv : Value) (w : World) : Calls Try.prog 47 #[.slice aa 0 cap, .int .i64 64, fv] w fun r w' => r = .returned (.tuple #[.int .i64 0, .int .i64 0]) ∧ Kept (fun _ => False) w w' := by
  have HK := Lib.hid ((Kept.refl (fun _ => False) w).alloc (.map #[] 0))
  have hmm := @run_makeMap Try.prog
  go_enter Try.func47, Try.ntmps47
  go_wp2
  refine wp_loop_rounds 1 ?_
  rw [rounds_succ]
  go_wp2
  go_ret2
  exact ⟨rfl, HK.out⟩
set_option maxRecDepth 100000 in
set_option maxHeartbeats 4000000 in
theorem running_c {w : World} {v : Value} {l : List Ev} (h : Evs w v l) (hw : EvW l) (hl : l.length ≤ 1000000) (n : Int) :
    Calls Try.prog 15 #[v, .int .i64 n] w (RunsPost l n w) := by
  have r3 := RowAt.new w 3 #[.int .i64 n]
  have k0 := (Kept.refl (fun _ => False) w).alloc (.cells #[.int .i64 n] 3)
  have HC := Lib.hid (checked_c (h.same k0) hw hl n 0 l.length)
  have HQ := Lib.hid h
  have HBK := Lib.hid (fun b hb hp => h.block (b := b) hb hp)
  obtain ⟨aa, cap, rfl⟩ := h.len
  obtain ⟨N, hN⟩ : ∃ N : Nat, N = l.length := ⟨_, rfl⟩
  obtain ⟨c, hc⟩ : ∃ c, wrongE l n 0 l.length = c := ⟨_, rfl⟩
  have HWE := Lib.hid hc
  rw [hc] at HC
  rw [← hN] at hl HC HQ HBK ⊢
  have HN := Lib.hid hN
  have HW := Lib.hid hw
  have HR3 := Lib.hid r3
  have HK0 := Lib.hid k0
  clear h hN hw r3 k0 hc
  by_cases hc0 : ¬ c = 0
  · have hb1 : (c != 0) = true := by simpa using hc0
    have hb2 : (c == 0) = false := by simpa using hc0
    have d0 := HR3.out.get (j := 0) rfl
    have dl := HR3.out.lt
    go_enter Try.func15, Try.ntmps15
    go_wp2_with (go_at_call 46; fail)
    refine HC.out.mono ?_
    rintro e w1 ⟨rfl, K1⟩
    have HF : Hid (RunsPost l n w (.returned (.tuple #[.slice none 0 0, .int .i64 c])) w1) := Lib.hid ⟨_, by rw [HWE.out], by rw [if_neg (by rw [HWE.out]; exact hc0)]; exact (RO.start _ _ _ w).move (HK0.out.trans K1 (fun _ _ h => h))⟩
    clear K1 hc0
    go_wp2
    go_ret2
    exact HF.out
  · obtain rfl := Decidable.not_not.1 hc0
    clear hc0
    obtain ⟨hok, hn0, hnN⟩ := wrong_ok HWE.out
    have HOK := Lib.hid hok
    obtain ⟨k, rfl⟩ : ∃ k : Nat, n = (k : Int) := ⟨n.toNat, by omega⟩
    have hkN : k ≤ N := by have := HN.out; omega
    have hcap : k ≤ cap := by
      rcases Nat.eq_zero_or_pos k with q | q
      · omega
      · obtain ⟨b0, off, cap2, hv, hcp, -, -⟩ := HQ.out.pos (by have := HN.out; omega)
        injection hv with _ _ e3
        have := HN.out
        omega
    have hcap2 : (k : Int) ≤ (cap : Int) := by omega
    have d0 := HR3.out.get (j := 0) rfl
    have dl := HR3.out.lt
    clear hok hn0 hnN
    go_enter Try.func15, Try.ntmps15
    go_wp2_with (go_at_call 46; fail)
    refine HC.out.mono ?_
    rintro e w1 ⟨rfl, K1⟩
    have HK1 := Lib.hid (HK0.out.trans K1 (fun _ _ h => h))
    have HB := Lib.hid (HR3.out.same K1)
    clear K1 d0 dl
    have ro := RowAt.new w1 25 #[.slice none 0 0]
    have kA : Kept (fun _ => False) w1 (w1.alloc (.cells #[.slice none 0 0] 25)) := (Kept.refl _ _).alloc _
    have HRO := Lib.hid ro
    have HKA := Lib.hid kA
    have HB2 := Lib.hid (HB.out.same kA)
    have d0 := HB2.out.get (j := 0) rfl
    have dl := HB2.out.lt
    have d1 := HB.out.get (j := 0) rfl
    have dl1 := HB.out.lt
    clear ro kA
    have k1 : (0 : Int) ≤ (k : Int) := by omega
    have hAP : w.heap.size < w1.heap.size := dl1
    rcases Nat.eq_zero_or_pos k with h0 | h0
    · -- nothing has happened
      subst h0
      go_wp2_with (go_at_call 47; fail)
      refine (walk0_c aa cap _ _).mono ?_
      rintro e w3 ⟨rfl, K3⟩
      have HP3 := Lib.hid (HRO.out.same K3)
      have HK3 := Lib.hid ((HK1.out.trans HKA.out (fun _ _ h => h)).trans K3 (fun _ _ h => h))
      clear K3 d0 dl d1 dl1
      have p0 := HP3.out.get (j := 0) rfl
      have pl := HP3.out.lt
      go_wp2_with (go_at_call 49; fail)
      refine (sort49_c (base := 0) (e := 3) [] (by simp) ⟨rfl, .inl ⟨rfl, rfl⟩⟩).mono ?_
      rintro e w4 ⟨rfl, -, K4⟩
      have K5 : Kept (fun _ => False) w3 w4 := K4.mono fun b _ q => by simp [Value.ownBlock] at q
      have HP4 := Lib.hid (HP3.out.same K5)
      have HF : Hid (RunsPost l (0 : Nat) w (.returned (.tuple #[.slice none 0 0, .int .i64 0])) w4) := Lib.hid ⟨_, by rw [HWE.out], by
        rw [if_pos HWE.out]
        have : runs l ((0 : Nat) : Int).toNat = [] := by simp [runs, Tr.und]
        rw [this]
        exact (RO.start _ _ _ w).move (HK3.out.trans K5 (fun _ _ h => h))⟩
      clear K4 K5 p0 pl
      have p0 := HP4.out.get (j := 0) rfl
      have pl := HP4.out.lt
      go_wp2
      go_ret2
      exact HF.out
    · have HE2 : Hid (Evs (w1.alloc (.cells #[.slice none 0 0] 25)) (.slice aa k cap) (l.take k)) := Lib.hid ((((HQ.out.same HK1.out).same HKA.out)).take (by have := HN.out; omega))
      have HLK : Hid (k = (l.take k).length) := Lib.hid (by rw [List.length_take]; have := HN.out; omega)
      have HWR := Lib.hid (walkR_c HE2.out HLK.out (fun x hx => HW.out x (List.mem_of_mem_take hx)) (by omega) (HOK.out.take k) HB2.out HRO.out (by omega) h0 (fun b hb q => by
        have := HBK.out b (by
          cases aa with
          | none => simp [Value.ownBlock] at hb
          | some a => exact hb) (by omega)
        omega))
      go_wp2_with (go_at_call 47; fail)
      refine HWR.out.mono ?_
      rintro e w3 ⟨rfl, ks, vo, p1, p2, p3, p4, p5, p6, p7⟩
      have HP1 := Lib.hid p1
      have HP2 := Lib.hid p2
      have HP3 := Lib.hid p3
      have HSR : Hid (srt ks = runs l k) := Lib.hid (srt_runs HOK.out HW.out p4 p5 p6)
      have HKL : Hid (ks.length ≤ 1000000000) := Lib.hid (by have := HLK.out; omega)
      have HSC := Lib.hid (sort49_c ks HKL.out p2)
      clear p1 p2 p3 p4 p5 p6 p7 d0 dl d1 dl1
      have p0 := HP1.out.get (j := 0) rfl
      have pl := HP1.out.lt
      go_wp2_with (go_at_call 49; fail)
      refine HSC.out.mono ?_
      rintro e w4 ⟨rfl, q2, K4⟩
      have hob := fun b (hb : vo.ownBlock = some b) => (ownsRow_block HP2.out hb).1
      have hsz : (w1.alloc (.cells #[.slice none 0 0] 25)).heap.size = w1.heap.size + 1 := World.size_alloc ..
      have HP4 := Lib.hid (HP1.out.kept K4 (fun q => by have := hob _ q; omega))
      have kW : Kept (fun _ => False) w w4 := ((HK1.out.trans HKA.out (fun _ _ h => h)).trans HP3.out (fun i hi q => by have := HK1.out.size; omega)).trans K4 (fun i hi q => by have := hob i q; have := HK1.out.size; omega)
      have HF : Hid (RunsPost l k w (.returned (.tuple #[vo, .int .i64 0])) w4) := Lib.hid ⟨_, by rw [HWE.out], by
        rw [if_pos HWE.out, Int.toNat_natCast, ← HSR.out]
        refine ⟨?_, kW.size, kW⟩
        rw [cells_ints, srt_length]
        exact ownsRow_base q2 (HK1.out.trans HKA.out (fun _ _ h => h)).size⟩
      clear q2 K4 kW hsz hob p0 pl
      have p0 := HP4.out.get (j := 0) rfl
      have pl := HP4.out.lt
      go_wp2
      go_ret2
      exact HF.out
end Go.Proofs.Ytfhlllmicobafaa
