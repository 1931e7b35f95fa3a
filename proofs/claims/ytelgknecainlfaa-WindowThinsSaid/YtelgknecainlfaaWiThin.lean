/- WiThin: texts for the statements of this seat: contracts of functions, walks, plain laws. Conditions: none. -/
import Derived.Test.YtelgknecainlfaaWiKeep2
import Derived.Test.YtelgknecainlfaaGeApp
set_option linter.all false
/- Thin: what it is; the program's Thin. -/
namespace Go.Proofs.Ytelgknecainlfaa
open Go.RowKit
open Wi (vld Srt chk limB limE inS longE)

/-- Whether t keeps to the limit behind out. -/
def keepB (T U : Int) (out : List Int) (t : Int) : Bool := (List.range out.length).all fun k => !early T U ((out.length : Int) - k) (t - out.getD k 0)
theorem keepB_iff {T U : Int} {out : List Int} {t : Int} : keepB T U out t = true ↔ ∀ (k : Nat) (x : Int), out[k]? = some x → early T U ((out.length : Int) - k) (t - x) = false := by
  unfold keepB
  rw [List.all_eq_true]
  constructor
  · intro h k x hx
    have hk := (List.getElem?_eq_some_iff.1 hx).1
    have := h k (List.mem_range.2 hk)
    rw [List.getD_eq_getElem?_getD, hx] at this
    simpa using this
  · intro h k hk
    have hk := List.mem_range.1 hk
    have := h k _ (get_of hk)
    rw [List.getD_eq_getElem?_getD, get_of hk]
    simpa using this
def tstep (T U : Int) (out : List Int) (t : Int) : List Int := if keepB T U out t = true then out ++ [t] else out
def thinF (T U : Int) (l : List Int) : List Int := l.foldl (tstep T U) []
theorem thinF_snoc (T U : Int) {l : List Int} {j : Nat} (h : j < l.length) : thinF T U (l.take (j + 1)) = tstep T U (thinF T U (l.take j)) l[j] := by
  rw [List.take_add_one, List.getElem?_eq_getElem h]
  unfold thinF
  rw [List.foldl_append]
  rfl
theorem tstep_len (T U : Int) (out : List Int) (t : Int) : (tstep T U out t).length ≤ out.length + 1 := by
  unfold tstep
  split <;> simp
theorem NI.push {T : Int} {out : List Int} {nx t : Int} (h : NI T out out.length nx) (hT : 0 ≤ T ∧ T ≤ 68719476736) (h0 : 0 ≤ t ∧ t ≤ 253402300799) : NI T (out ++ [t]) (out ++ [t]).length (max nx t + T) := by
  have h2 : NI T (out ++ [t]) out.length nx := ⟨fun a x ha hx => h.le a x ha (by rwa [List.getElem?_append_left ha] at hx), by
    rcases h.ex with h | ⟨a, x, ha, hx, e⟩
    · exact .inl h
    · exact .inr ⟨a, x, ha, by rw [List.getElem?_append_left ha]; exact hx, e⟩, h.bd⟩
  have := h2.step (t := t) hT (by simp) h0
  simpa using this
theorem ni_late {T U : Int} {out : List Int} {nx t : Int} (h : NI T out out.length nx) (hT : 0 < T) (hj : 0 < out.length) : t < nx - U ↔ keepB T U out t = false := by
  rw [← Bool.not_eq_true, keepB_iff]
  constructor
  · intro hlt hk
    rcases h.ex with ⟨h1, -⟩ | ⟨a, x, ha, hx, h2⟩
    · omega
    · have := hk a x hx
      simp only [early, Bool.and_eq_false_iff, decide_eq_false_iff_not] at this
      omega
  · intro hk
    apply Int.not_le.1
    intro hle
    apply hk
    intro k x hx
    have h1 := h.le k x (List.getElem?_eq_some_iff.1 hx).1 hx
    simp only [early, Bool.and_eq_false_iff, decide_eq_false_iff_not]
    right
    omega
theorem info2q : (Try.prog.info? 2).map (fun i => (i.zero, i.size, i.bytes)) = some (some (.int .i64 0), 1, 8) := by kernel_rfl
theorem el24 : ElemOk Try.prog 24 2 1 8 := .mk' Try.underlying24 info2q rfl (by decide)
def iv (l : List Int) : List Value := l.map (Value.int .i64)
theorem iv_one (l : List Int) : ∀ u ∈ iv l, u.oneCell' = true := by
  intro u hu
  obtain ⟨x, -, rfl⟩ := List.mem_map.1 hu
  rfl
/-- A row of numbers in the making. -/
def RS (w wk : World) (v : Value) (xs : List Int) : Prop := wk.ownsRow w.heap.size 2 1 v xs.length (iv xs) ∧ w.heap.size ≤ wk.heap.size ∧ Kept (fun _ => False) w wk
theorem RS.start (w : World) : RS w w (.slice none 0 0) [] := ⟨⟨rfl, .inl ⟨rfl, rfl⟩⟩, Nat.le_refl _, Kept.refl _ _⟩
theorem RS.step {w w1 w2 : World} {v1 v2 : Value} {x1 x2 : List Int} (h : RS w w1 v1 x1) (h2 : w2.ownsRow w.heap.size 2 1 v2 x2.length (iv x2)) (K : Kept (fun b => v1.ownBlock = some b) w1 w2) : RS w w2 v2 x2 :=
  ⟨h2, Nat.le_trans h.2.1 K.size, h.2.2.trans K fun i hi hv => by have := (ownsRow_block h.1 hv).1; omega⟩
theorem RS.move {w w1 w2 : World} {v1 : Value} {x1 : List Int} (h : RS w w1 v1 x1) (K : Kept (fun _ => False) w1 w2) : RS w w2 v1 x1 :=
  ⟨ownsRow_kept h.1 K (fun _ _ _ h => h), Nat.le_trans h.2.1 K.size, h.2.2.trans K fun _ _ h => h⟩
theorem RS.base {w w1 wk : World} {v : Value} {xs : List Int} (h : RS w1 wk v xs) (K : Kept (fun _ => False) w w1) : RS w wk v xs :=
  ⟨ownsRow_base h.1 K.size, Nat.le_trans K.size h.2.1, K.trans h.2.2 fun _ _ h => h⟩
theorem RS.val {w w1 : World} {v : Value} {xs : List Int} (h : RS w w1 v xs) : ∃ p c, v = .slice p xs.length c := by
  rcases h.1.2 with ⟨rfl, h0⟩ | ⟨g, cap, cur, rfl, -⟩
  · exact ⟨none, 0, by rw [h0]⟩
  · exact ⟨_, cap, rfl⟩
theorem RS.ints {w w1 : World} {v : Value} {xs : List Int} (h : RS w w1 v xs) : Ints w1 v xs := IntsK.of_own h.1
noncomputable def ThinPost (T U : Int) (l : List Int) (w : World) (e : Ending) (w' : World) : Prop :=
  ∃ v, e = .returned (.tuple #[v, .int .i64 (bothE T U l)]) ∧ RS w w' v (if bothE T U l = 0 then thinF T U l else [])
set_option maxRecDepth 100000 in
set_option maxHeartbeats 4000000 in
theorem thin_c {w : World} {v : Value} {l : List Int} (h : Ints w v l) (hl : l.length ≤ 4611686018427387904) (T U : Int) : Calls Try.prog 17 #[.agg #[.int .i64 T, .int .i64 U], v] w (ThinPost T U l w) := by
  have HROW := Lib.hid (RowAt.new w 23 #[.int .i64 T, .int .i64 U])
  have HK0 := Lib.hid ((Kept.refl (fun _ => False) w).alloc (.cells #[.int .i64 T, .int .i64 U] 23))
  have HC := Lib.hid (fun W K => both34_c (w := W) (h.same K) hl T U)
  have HQ := Lib.hid h
  obtain ⟨aa, cap, rfl⟩ := h.len
  obtain ⟨n, hn⟩ : ∃ n : Nat, n = l.length := ⟨_, rfl⟩
  rw [← hn] at hl HC HQ ⊢
  have HN := Lib.hid hn
  clear h hn
  by_cases hz : bothE T U l = 0
  · obtain ⟨hlim, hg⟩ := bothE_ok hz
    obtain ⟨⟨t1, t2⟩, ⟨u1, u2⟩, hTU⟩ := limE_ok hlim
    have hn5 : n ≤ 100000 := by have := hg.len; have := HN.out; omega
    have HG := Lib.hid hg.vld
    have HZ := Lib.hid hz
    clear hz hlim hg hTU
    go_enter Try.func17, Try.ntmps17
    go_wp2_with (go_at_call 34; fail)
    refine (HC.out _ HK0.out).mono ?_
    rintro e w1 ⟨rfl, K1⟩
    rw [HZ.out]
    have HR1 := Lib.hid (HROW.out.same K1)
    have HK1 := Lib.hid (HK0.out.trans K1 (fun _ _ h => h))
    have HRS := Lib.hid (RS.start w1)
    clear K1 HROW HK0 HC
    obtain ⟨A, hA⟩ : ∃ A, w.heap.size = A := ⟨_, rfl⟩
    rw [hA] at HR1 ⊢
    clear hA
    go_wp2
    go_loopw [7, 8, 19] (fun s r i wr => ∃ (j : Nat) (nx : Int) (out : List Int), j ≤ n ∧ i = .int .i64 j ∧ r = .int .i64 nx ∧ out = thinF T U (l.take j) ∧ out.length ≤ j ∧ NI T out out.length nx ∧ RS w1 wr s out) (fun _ _ i _ => match i with | .int _ x => (n - x).toNat | _ => 0)
    case atStart => exact ⟨0, 0, [], Nat.zero_le _, rfl, rfl, rfl, Nat.zero_le _, NI.start T [], HRS.out⟩
    case round =>
      obtain ⟨j, nx, out, hj, rfl, rfl, hout, hol, hni, hrs⟩ := hrel
      have HOUT := Lib.hid hout
      have HNI := Lib.hid hni
      have HS := Lib.hid hrs
      obtain ⟨b1, b2⟩ := hni.bd
      obtain ⟨ps, cs, rfl⟩ := hrs.val
      clear hout hni hrs HRS
      by_cases hlt : j < n
      · have hjl : j < l.length := by have := HN.out; omega
        obtain ⟨b0, off, cap', hv, hb0, hcell⟩ := ((HQ.out.same HK1.out).same HS.out.2.2).pos (by have := HN.out; omega)
        rw [← HN.out] at hv
        injection hv with e1 e2 e3
        subst e1 e3
        have c1 := IntsK.at hcell hjl
        have hy := HG.out l[j] (List.getElem_mem hjl)
        have HST := Lib.hid (thinF_snoc T U hjl)
        clear hcell
        generalize l[j] = t at c1 hy HST
        have HPU := Lib.hid (HNI.out.push ⟨t1, t2⟩ hy)
        have HLA : Hid (0 < T → 0 < out.length → (t < nx - U ↔ keepB T U out t = false)) := Lib.hid fun a b => ni_late HNI.out a b
        have HEM : Hid (out.length = 0 → keepB T U out t = true) := Lib.hid fun e => by rw [List.eq_nil_of_length_eq_zero e]; rfl
        have HT0 : Hid (¬ 0 < T → keepB T U out t = true) := Lib.hid fun e => keepB_iff.2 fun k x _ => by unfold early; rw [decide_eq_false e]; rfl
        have d0 := (HR1.out.same HS.out.2.2).get (j := 0) rfl
        have d1 := (HR1.out.same HS.out.2.2).get (j := 1) rfl
        have HMX : Hid ((if nx < t then t else nx) = max nx t) := Lib.hid (by split <;> omega)
        have HIV : Hid (iv (out ++ [t]) = iv out ++ [.int .i64 t] ∧ (out ++ [t]).length = out.length + 1) := Lib.hid ⟨by simp [iv], by simp⟩
        obtain ⟨m, hm⟩ : ∃ m, out.length = m := ⟨_, rfl⟩
        have HM := Lib.hid hm
        rw [hm] at hol b2 HLA HEM ⊢
        have HB1 : Hid (m + 1 ≤ maxLen ∧ (m + 1) * 8 ≤ 140737488355328) := Lib.hid (by unfold maxLen; omega)
        have HS1 : Hid (RS w1 wr (.slice ps m cs) out ∧ wr.ownsRow w1.heap.size 2 1 (.slice ps m cs) m (iv out)) := Lib.hid (by
          have h := HS.out
          rw [hm] at h
          have h1 := h.1
          rw [hm] at h1
          exact ⟨h, h1⟩)
        clear hm
        have KEEP : Hid (keepB T U out t = true → ∀ g c w5, w5.ownsRow w1.heap.size 2 1 (.slice (some ⟨g, 0, none⟩) (m + 1) c) (m + 1) (iv out ++ [.int .i64 t]) → Kept (fun b => (Value.slice ps m cs).ownBlock = some b) wr w5 →
            RS w1 w5 (.slice (some ⟨g, 0, none⟩) (m + 1) c) (out ++ [t]) ∧ out ++ [t] = thinF T U (l.take (j + 1)) ∧ (out ++ [t]).length ≤ j + 1 ∧ RowAt w5 A [.int .i64 T, .int .i64 U]) := Lib.hid fun hk g c w5 ho K => by
          have hs := HS1.out.1.step (v2 := .slice (some ⟨g, 0, none⟩) (m + 1) c) (x2 := out ++ [t]) (by rw [HIV.out.1, HIV.out.2, HM.out]; exact ho) K
          exact ⟨hs, by rw [HST.out, ← HOUT.out]; unfold tstep; rw [if_pos hk], by rw [HIV.out.2, HM.out]; omega, HR1.out.same hs.2.2⟩
        by_cases hTp : 0 < T
        · by_cases hm0 : 0 < m
          · have hm0' : (0 : Int) < (m : Int) := by omega
            by_cases hea : t < nx - U
            · have HNX : Hid (out = thinF T U (l.take (j + 1))) := Lib.hid (by rw [HST.out, ← HOUT.out]; unfold tstep; rw [if_neg (by rw [(HLA.out hTp hm0).1 hea]; decide)])
              go_wp2
              go_roundw
              case rel => exact ⟨j + 1, nx, out, by omega, by go_num, rfl, HNX.out, by have := HM.out; omega, HNI.out, HS1.out.1⟩
              case measure => simp; omega
            · have HKT : Hid (keepB T U out t = true) := Lib.hid (by
                cases hk : keepB T U out t with
                | true => rfl
                | false => exact absurd ((HLA.out hTp hm0).2 hk) hea)
              go_wp2_with (at_builtin; go_loud (refine wpList_app2 el24 rfl (.tmp 39) (.tmp 41) rfl w1.heap.size (.slice ps m cs) m (iv out) rfl HS1.out.2 rfl rfl (iv_one [t]) HB1.out.1 HB1.out.2 HS1.out.1.2.1 ?_; rintro g c w5 hown5 K5 -; have HKP := Lib.hid (KEEP.out HKT.out g c w5 hown5 K5); have f0 := HKP.out.2.2.2.get (j := 0) rfl; clear hown5 K5))
              go_roundw
              case rel => exact ⟨j + 1, max nx t + T, out ++ [t], by omega, by go_num, by rw [HMX.out], HKP.out.2.1, HKP.out.2.2.1, HPU.out, HKP.out.1⟩
              case measure => simp; omega
          · have HKT : Hid (keepB T U out t = true) := Lib.hid (HEM.out (by omega))
            have hm0' : ¬ (0 : Int) < (m : Int) := by omega
            go_wp2_with (at_builtin; go_loud (refine wpList_app2 el24 rfl (.tmp 39) (.tmp 41) rfl w1.heap.size (.slice ps m cs) m (iv out) rfl HS1.out.2 rfl rfl (iv_one [t]) HB1.out.1 HB1.out.2 HS1.out.1.2.1 ?_; rintro g c w5 hown5 K5 -; have HKP := Lib.hid (KEEP.out HKT.out g c w5 hown5 K5); have f0 := HKP.out.2.2.2.get (j := 0) rfl; clear hown5 K5))
            go_roundw
            case rel => exact ⟨j + 1, max nx t + T, out ++ [t], by omega, by go_num, by rw [HMX.out], HKP.out.2.1, HKP.out.2.2.1, HPU.out, HKP.out.1⟩
            case measure => simp; omega
        · have HKT : Hid (keepB T U out t = true) := Lib.hid (HT0.out hTp)
          go_wp2_with (at_builtin; go_loud (refine wpList_app2 el24 rfl (.tmp 39) (.tmp 41) rfl w1.heap.size (.slice ps m cs) m (iv out) rfl HS1.out.2 rfl rfl (iv_one [t]) HB1.out.1 HB1.out.2 HS1.out.1.2.1 ?_; rintro g c w5 hown5 K5 -; have HKP := Lib.hid (KEEP.out HKT.out g c w5 hown5 K5); have f0 := HKP.out.2.2.2.get (j := 0) rfl; clear hown5 K5))
          go_roundw
          case rel => exact ⟨j + 1, max nx t + T, out ++ [t], by omega, by go_num, by rw [HMX.out], HKP.out.2.1, HKP.out.2.2.1, HPU.out, HKP.out.1⟩
          case measure => simp; omega
      · have HE : Hid (out = thinF T U l) := Lib.hid (by rw [HOUT.out, List.take_of_length_le (by have := HN.out; omega)])
        have HF : Hid (RS w wr (.slice ps out.length cs) (if bothE T U l = 0 then thinF T U l else [])) := Lib.hid (by rw [if_pos HZ.out, ← HE.out]; exact HS.out.base HK1.out)
        go_wp2
        go_ret2
        exact ⟨_, by rw [HZ.out]; rfl, HF.out⟩
  · have HZ := Lib.hid hz
    obtain ⟨r, hr⟩ : ∃ r, bothE T U l = r := ⟨_, rfl⟩
    rw [hr] at hz
    have hb : (r != 0) = true := by simpa using hz
    have HRR := Lib.hid hr
    clear hz hr
    go_enter Try.func17, Try.ntmps17
    go_wp2_with (go_at_call 34; fail)
    refine (HC.out _ HK0.out).mono ?_
    rintro e w1 ⟨rfl, K1⟩
    rw [HRR.out]
    have HF : Hid (RS w w1 (.slice none 0 0) (if bothE T U l = 0 then thinF T U l else [])) := Lib.hid (by rw [if_neg HZ.out]; exact (RS.start w).move (HK0.out.trans K1 (fun _ _ h => h)))
    go_wp2
    go_ret2
    exact ⟨_, by rw [HRR.out]; rfl, HF.out⟩
end Go.Proofs.Ytelgknecainlfaa
