/- TrSome: texts for the statements of this seat: contracts of functions, walks, plain laws. Conditions: none. -/
import Derived.Sort.QuietIn
import Derived.RegionIn
import Derived.Test.YtfhlllmicobafaaTrCheck
import Derived.Test.YtfhlllmicobafaaGeAll
set_option linter.all false
/- some: the events of a job of which something is so, one by one. -/
namespace Go.Proofs.Ytfhlllmicobafaa
open Go.RowKit Go.Shelf
open Tr (Ev ofB)

attribute [local go_sem] Oper.semAt_some

/-- What some yields of the first k events. -/
def picks (is : Ev → Bool) (job : Int) (l : List Ev) (k : Nat) : List (Nat × Ev) := (List.range k).filterMap fun i => match l[i]? with
  | some x => if ofB job x = true ∧ is x = true then some (i, x) else none
  | none => none
theorem picks_yes {is : Ev → Bool} {job : Int} {l : List Ev} {k : Nat} {x : Ev} (h : l[k]? = some x) (h1 : ofB job x = true) (h2 : is x = true) : picks is job l (k + 1) = picks is job l k ++ [(k, x)] := by
  simp [picks, List.range_succ, List.filterMap_append, h, h1, h2]
theorem picks_no {is : Ev → Bool} {job : Int} {l : List Ev} {k : Nat} {x : Ev} (h : l[k]? = some x) (h1 : ¬ (ofB job x = true ∧ is x = true)) : picks is job l (k + 1) = picks is job l k := by
  have h2 : ofB job x = true → is x = false := fun q => by
    cases hi : is x with
    | false => rfl
    | true => exact absurd ⟨q, hi⟩ h1
  simp [picks, List.range_succ, List.filterMap_append, h]
  exact h2
theorem picks_prefix (is : Ev → Bool) (job : Int) (l : List Ev) {k n : Nat} (h : k ≤ n) : picks is job l k <+: picks is job l n := by
  obtain ⟨d, rfl⟩ := Nat.exists_eq_add_of_le h
  simp only [picks, List.range_add, List.filterMap_append]
  exact List.prefix_append _ _
theorem picks_len (is : Ev → Bool) (job : Int) (l : List Ev) (k : Nat) : (picks is job l k).length ≤ k := by
  have := List.length_filterMap_le (fun i => match l[i]? with | some x => if ofB job x = true ∧ is x = true then some (i, x) else none | none => none) (List.range k)
  simpa [picks] using this
theorem picks_mem {is : Ev → Bool} {job : Int} {l : List Ev} {k : Nat} {p : Nat × Ev} (h : p ∈ picks is job l k) : p.1 < k ∧ l[p.1]? = some p.2 ∧ ofB job p.2 = true ∧ is p.2 = true := by
  unfold picks at h
  obtain ⟨i, hi, h⟩ := List.mem_filterMap.1 h
  rw [List.mem_range] at hi
  split at h
  · rename_i x hx
    split at h
    · rename_i hc
      injection h with h
      subst h
      exact ⟨hi, hx, hc⟩
    · cases h
  · cases h
theorem picks_all (is : Ev → Bool) (job : Int) (l : List Ev) : (picks is job l l.length).map (·.2) = l.filter fun x => ofB job x && is x := by
  have : ∀ k, k ≤ l.length → (picks is job l k).map (·.2) = (l.take k).filter fun x => ofB job x && is x := by
    intro k
    induction k with
    | zero => intro _; simp [picks]
    | succ k ih =>
      intro hk
      have hx := get_of (l := l) (j := k) (by omega)
      rw [Tr.take_snoc' hx, List.filter_append, ← ih (by omega)]
      by_cases h1 : ofB job l[k] = true ∧ is l[k] = true
      · rw [picks_yes hx h1.1 h1.2, List.map_append]
        simp [h1.1, h1.2]
      · rw [picks_no hx h1]
        have : (ofB job l[k] && is l[k]) = false := by
          cases h2 : ofB job l[k] && is l[k] with
          | false => rfl
          | true => exact absurd (by simpa using h2) h1
        simp [this]
  have h := this l.length (Nat.le_refl _)
  rwa [List.take_of_length_le (Nat.le_refl _)] at h
theorem of_c (e : Ev) (job : Int) (w : World) : Calls Try.prog 69 #[evV e, .int .i64 job] w fun r w' => r = .returned (.bool (ofB job e)) ∧ Kept (fun _ => False) w w' := by
  have HK : Hid (∀ o, Kept (fun _ => False) w (w.alloc o)) := Lib.hid fun o => (Kept.refl _ _).alloc _
  by_cases h1 : job = -1
  · subst h1
    have HE : Hid (ofB (-1) e = true) := Lib.hid (by simp [ofB])
    go_enter Try.func69, Try.ntmps69
    go_wp2
    go_ret
    exact ⟨by rw [HE.out]; rfl, HK.out _⟩
  · have h1a : (job == -1) = false := by simpa using h1
    by_cases h2 : e.job = job
    · have h2a : (e.job == job) = true := by simpa using h2
      have HE : Hid (ofB job e = true) := Lib.hid (by simp [ofB, h2])
      clear h2
      go_enter Try.func69, Try.ntmps69
      go_wp2
      go_ret
      exact ⟨by rw [HE.out]; rfl, HK.out _⟩
    · have h2a : (e.job == job) = false := by simpa using h2
      have HE : Hid (ofB job e = false) := Lib.hid (by simp [ofB, h1, h2])
      clear h2
      go_enter Try.func69, Try.ntmps69
      go_wp2
      go_ret
      exact ⟨by rw [HE.out]; rfl, HK.out _⟩
theorem of_b (b : Bool) (e : Ev) (job : Int) (w : World) (h : ofB job e = b) : Calls Try.prog 69 #[evV e, .int .i64 job] w fun r w' => r = .returned (.bool b) ∧ Kept (fun _ => False) w w' := h ▸ of_c e job w
/-- The boxes in which some's arguments lie. -/
structure Boxes (w : World) (Bl Bj Bi : Nat) (v : Value) (job : Int) (f : Value) (l : List Ev) : Prop where
  bl : RowAt w Bl [v]
  bj : RowAt w Bj [.int .i64 job]
  bi : RowAt w Bi [f]
  rows : Evs w v l
/-- What a round leaves alone. -/
def SKp (Bl Bj Bi : Nat) (v : Value) (l : List Ev) (W W' : World) : Prop := Kept (fun b => b ≠ Bl ∧ b ≠ Bj ∧ b ≠ Bi ∧ (v.ownBlock = some b → l = [])) W W'
theorem Boxes.kept {S : Nat → Prop} {w w' : World} {Bl Bj Bi : Nat} {v : Value} {job : Int} {f : Value} {l : List Ev} (h : Boxes w Bl Bj Bi v job f l) (K : Kept S w w') (hS : ∀ b, S b → b < w.heap.size → b ≠ Bl ∧ b ≠ Bj ∧ b ≠ Bi ∧ (v.ownBlock = some b → l = [])) : Boxes w' Bl Bj Bi v job f l where
  bl := h.bl.kept K (fun q => (hS _ q h.bl.lt).1 rfl)
  bj := h.bj.kept K (fun q => (hS _ q h.bj.lt).2.1 rfl)
  bi := h.bi.kept K (fun q => (hS _ q h.bi.lt).2.2.1 rfl)
  rows := h.rows.kept K (fun b hb hp q => by have := (hS _ q (h.rows.block hb hp)).2.2.2 hb; subst this; cases hp)
theorem Boxes.skp {w w' : World} {Bl Bj Bi : Nat} {v : Value} {job : Int} {f : Value} {l : List Ev} (h : Boxes w Bl Bj Bi v job f l) (K : SKp Bl Bj Bi v l w w') : Boxes w' Bl Bj Bi v job f l := h.kept K fun _ h _ => h
theorem Boxes.same {w w' : World} {Bl Bj Bi : Nat} {v : Value} {job : Int} {f : Value} {l : List Ev} (h : Boxes w Bl Bj Bi v job f l) (K : Kept (fun _ => False) w w') : Boxes w' Bl Bj Bi v job f l := h.kept K fun _ h _ => h.elim
set_option maxHeartbeats 1000000 in
theorem some_c (aa : Option Addr) (nn cc : Nat) (l : List Ev) (job : Int) (fi : Nat) (caps : Array Value) (w : World) (h : Evs w (.slice aa nn cc) l) :
    Calls Try.prog 52 #[.slice aa nn cc, .int .i64 job, .func (.func fi) #[] caps] w fun r w' => ∃ B B2 B3, r = .returned (.func (.func 68) #[] #[.pointer (some ⟨B, 0, none⟩), .pointer (some ⟨B2, 0, none⟩), .pointer (some ⟨B3, 0, none⟩)]) ∧ (w.heap.size ≤ B ∧ B < B2 ∧ B2 < B3) ∧ Boxes w' B B2 B3 (.slice aa nn cc) job (.func (.func fi) #[] caps) l ∧ Kept (fun _ => False) w w' := by
  have r0 := RowAt.new w 22 #[.slice aa nn cc]
  have r1 := RowAt.new (w.alloc (.cells #[.slice aa nn cc] 22)) 3 #[.int .i64 job]
  have r2 := RowAt.new ((w.alloc (.cells #[.slice aa nn cc] 22)).alloc (.cells #[.int .i64 job] 3)) 66 #[.func (.func fi) #[] caps]
  simp only [World.size_alloc] at r1 r2
  have k0 : Kept (fun _ => False) w (((w.alloc (.cells #[.slice aa nn cc] 22)).alloc (.cells #[.int .i64 job] 3)).alloc (.cells #[.func (.func fi) #[] caps] 66)) := (((Kept.refl _ _).alloc _).alloc _).alloc _
  have HB : Hid (Boxes (((w.alloc (.cells #[.slice aa nn cc] 22)).alloc (.cells #[.int .i64 job] 3)).alloc (.cells #[.func (.func fi) #[] caps] 66)) w.heap.size (w.heap.size + 1) (w.heap.size + 2) (.slice aa nn cc) job (.func (.func fi) #[] caps) l) := Lib.hid
    ⟨(r0.same ((Kept.refl _ _).alloc _)).same ((Kept.refl _ _).alloc _), r1.same ((Kept.refl _ _).alloc _), r2, h.same k0⟩
  have HK := Lib.hid k0
  clear r0 r1 r2 k0 h
  go_enter Try.func52, Try.ntmps52
  go_wp2
  go_ret
  exact ⟨_, _, _, rfl, ⟨Nat.le_refl _, by omega, by omega⟩, HB.out, HK.out⟩

set_option maxRecDepth 100000 in
set_option maxHeartbeats 4000000 in
theorem some_in53 (n : Nat) (hn : 2 ≤ n) (lp Bl Bj Bi : Nat) (v : Value) (job : Int) (l : List Ev) (hl : l.length ≤ 1000000) (is : Ev → Bool)
    (HIS : Hid (∀ b e W, is e = b → Boxes W Bl Bj Bi v job (.func (.func 53) #[] #[]) l → Calls Try.prog 53 #[evV e] W fun r W' => r = .returned (.bool b) ∧ Kept (fun _ => False) W W')) (J Jx : List (Nat × Ev) → World → Prop)
    (hJ : ∀ s A B', J s A → Kept (fun _ => False) A B' → J s B')
    (hY : ∀ pre x W, J pre W → pre ++ [x] <+: picks is job l l.length → YieldAt Fence.wide (n - 1) Try.prog lp #[.int .i64 (x.1 : Nat), evV x.2] W fun e W' =>
      (e = .returned (.bool true) ∧ J (pre ++ [x]) W' ∧ SKp Bl Bj Bi v l W W') ∨ (e = .returned (.bool false) ∧ Jx (pre ++ [x]) W'))
    (W : World) (hB : Boxes W Bl Bj Bi v job (.func (.func 53) #[] #[]) l) (h0 : J [] W) :
    CallsIn Fence.wide n Try.prog 68 #[.func (.yield lp) #[] #[], .pointer (some ⟨Bl, 0, none⟩), .pointer (some ⟨Bj, 0, none⟩), .pointer (some ⟨Bi, 0, none⟩)] W fun e W' => (∃ v, e = .returned v) ∧
      ((∃ ys, ys = picks is job l l.length ∧ J ys W') ∨ ∃ pre, pre <+: picks is job l l.length ∧ Jx pre W') := by
  have HQ := Lib.hid hB
  have cl := hB.bl.get (j := 0) rfl
  obtain ⟨aa, cap, rfl⟩ := hB.rows.len
  obtain ⟨N, hN⟩ : ∃ N : Nat, N = l.length := ⟨_, rfl⟩
  rw [← hN] at hl HQ HIS hY cl ⊢
  have HN := Lib.hid hN
  have HJ0 := Lib.hid h0
  clear hB hN h0
  refine callsIn_of_wp Try.func68 rfl trivial ?_ rfl
  simp only [Try.ntmps68, List.size_toArray, List.length_cons, List.length_nil, Nat.reduceAdd, Nat.reduceSub, Array.replicate_succ, Array.replicate_zero, List.push_toArray, List.append_toArray, List.nil_append, List.cons_append]
  gi_wp2
  gi_loopw [9] (fun p wr => ∃ (k : Nat) (pre : List (Nat × Ev)), k ≤ N ∧ p = .int .i64 k ∧ pre = picks is job l k ∧ Boxes wr Bl Bj Bi (.slice aa N cap) job (.func (.func 53) #[] #[]) l ∧ J pre wr)
    (fun p _ => N - (intOf p).toNat)
  case atStart => exact ⟨0, [], Nat.zero_le _, rfl, rfl, HQ.out, HJ0.out⟩
  case round =>
    clear cl
    obtain ⟨k, pre, hk, rfl, hpre, hB, hj⟩ := hrel
    have HB := Lib.hid hB
    have HJ := Lib.hid hj
    have HP := Lib.hid hpre
    clear hB hj hpre
    obtain ⟨wo, hwo⟩ : ∃ wo : World, wo = wr := ⟨_, rfl⟩
    subst hwo
    by_cases hlt : k < N
    · have hkl : k < l.length := by have := HN.out; omega
      obtain ⟨b0, off, cap', hv, hcp, hb0, hrows⟩ := HB.out.rows.pos (by omega)
      rw [← HN.out] at hv
      injection hv with e1 e2 e3
      subst e1 e3
      have HX := Lib.hid (get_of hkl)
      have hx8 := hrows.ev HX.out
      generalize l[k] = x at HX hx8
      obtain ⟨a0, a1, a2, a3, a4, a5, a6, a7⟩ := hx8
      have HROW := Lib.hid (RowAt.new wo 35 (evC x).toArray)
      have HK0 := Lib.hid ((Kept.refl (fun _ => False) wo).alloc (.cells (evC x).toArray 35))
      have cj := HB.out.bj.get (j := 0) rfl
      have bjl := HB.out.bj.lt
      clear e2 hrows
      cases hof : ofB job x with
      | false =>
        have HNX : Hid (pre = picks is job l (k + 1)) := Lib.hid (by rw [picks_no HX.out (by rw [hof]; simp)]; exact HP.out)
        have HOF := Lib.hid hof
        clear hof
        gi_wp2_with fail
        refine ⟨trivial, fun h => (by cases h), ?_⟩
        refine (callsIn_wide.2 (of_b false x job _ HOF.out)).mono ?_
        rintro e w2 ⟨rfl, K2⟩
        have HK2 := Lib.hid (HK0.out.trans K2 (fun _ _ h => h))
        clear K2 HK0 HROW a0 a1 a2 a3 a4 a5 a6 a7 cj bjl
        gi_wp2
        refine ⟨fun _ h => (by cases h), ?_⟩
        gi_wp2
        refine ⟨fun _ h => (by cases h), ?_⟩
        gi_wp2
        go_roundw
        case rel => exact ⟨k + 1, pre, by omega, by go_num, HNX.out, HB.out.same HK2.out, hJ _ _ _ HJ.out HK2.out⟩
        case measure => simp [intOf]; omega
      | true =>
        have HOF := Lib.hid hof
        clear hof
        gi_wp2_with fail
        refine ⟨trivial, fun h => (by cases h), ?_⟩
        refine (callsIn_wide.2 (of_b true x job _ HOF.out)).mono ?_
        rintro e w2 ⟨rfl, K2⟩
        have HK2 := Lib.hid (HK0.out.trans K2 (fun _ _ h => h))
        have HR2 := Lib.hid (HROW.out.same K2)
        clear K2 HK0 HROW a0 a1 a2 a3 a4 a5 a6 a7 cj bjl
        obtain ⟨X, hX⟩ : ∃ X, wo.heap.size = X := ⟨_, rfl⟩
        rw [hX] at HR2 ⊢
        clear hX
        have HB2 := Lib.hid (HB.out.same HK2.out)
        have ci := HB2.out.bi.get (j := 0) rfl
        have bil := HB2.out.bi.lt
        have c0 := HR2.out.get (j := 0) rfl
        have c1 := HR2.out.get (j := 1) rfl
        have c2 := HR2.out.get (j := 2) rfl
        have c3 := HR2.out.get (j := 3) rfl
        have c4 := HR2.out.get (j := 4) rfl
        have c5 := HR2.out.get (j := 5) rfl
        have c6 := HR2.out.get (j := 6) rfl
        have c7 := HR2.out.get (j := 7) rfl
        have hb := HR2.out.lt
        cases his : is x with
        | false =>
          have HNX : Hid (pre = picks is job l (k + 1)) := Lib.hid (by rw [picks_no HX.out (by rw [his]; simp)]; exact HP.out)
          have HI := Lib.hid his
          clear his
          gi_wp2_with fail
          refine ⟨trivial, fun h => (by cases h), ?_⟩
          refine (callsIn_wide.2 (HIS.out false x _ HI.out HB2.out)).mono ?_
          rintro e w3 ⟨rfl, K3⟩
          have HK3 := Lib.hid (HK2.out.trans K3 (fun _ _ h => h))
          clear K3 ci bil c0 c1 c2 c3 c4 c5 c6 c7 hb
          gi_wp2
          refine ⟨fun _ h => (by cases h), ?_⟩
          gi_wp2
          go_roundw
          case rel => exact ⟨k + 1, pre, by omega, by go_num, HNX.out, HB.out.same HK3.out, hJ _ _ _ HJ.out HK3.out⟩
          case measure => simp [intOf]; omega
        | true =>
          have HNX : Hid (pre ++ [(k, x)] = picks is job l (k + 1)) := Lib.hid (by rw [picks_yes HX.out HOF.out his, HP.out])
          have HI := Lib.hid his
          clear his
          gi_wp2_with fail
          refine ⟨trivial, fun h => (by cases h), ?_⟩
          refine (callsIn_wide.2 (HIS.out true x _ HI.out HB2.out)).mono ?_
          rintro e w3 ⟨rfl, K3⟩
          have HK3 := Lib.hid (HK2.out.trans K3 (fun _ _ h => h))
          have hR3 := HR2.out.same K3
          clear K3 ci bil c0 c1 c2 c3 c4 c5 c6 c7 hb
          have c0 := hR3.get (j := 0) rfl
          have c1 := hR3.get (j := 1) rfl
          have c2 := hR3.get (j := 2) rfl
          have c3 := hR3.get (j := 3) rfl
          have c4 := hR3.get (j := 4) rfl
          have c5 := hR3.get (j := 5) rfl
          have c6 := hR3.get (j := 6) rfl
          have c7 := hR3.get (j := 7) rfl
          have hb := hR3.lt
          clear hR3
          obtain ⟨fn, tmps, assign, body, hyy, hR⟩ := hY pre (k, x) w3 (hJ _ _ _ HJ.out HK3.out) (by rw [HNX.out]; exact picks_prefix is job l (by omega))
          gi_wp2
          refine ⟨fun h => (by cases h), ?_⟩
          refine hR.mono ?_
          rintro e W3 (⟨rfl, hJ3, hk3⟩ | ⟨rfl, hJx3⟩)
          · have HB3 := Lib.hid ((HB.out.same HK3.out).skp hk3)
            clear hk3
            gi_wp2
            go_roundw
            case rel => exact ⟨k + 1, _, by omega, by go_num, HNX.out, HB3.out, hJ3⟩
            case measure => simp [intOf]; omega
          · gi_wp2
            refine bodyPost_ret (results_none rfl _ _ _) rfl ?_
            exact ⟨⟨_, rfl⟩, .inr ⟨_, by rw [HNX.out]; exact picks_prefix is job l (by omega), hJx3⟩⟩
    · obtain rfl : k = N := by omega
      gi_wp2
      go_end0
      exact ⟨⟨_, rfl⟩, .inl ⟨pre, HP.out, HJ.out⟩⟩

theorem some_seq53 (n : Nat) (hn : 2 ≤ n) (Bl Bj Bi : Nat) (v : Value) (job : Int) (l : List Ev) (hl : l.length ≤ 1000000) (is : Ev → Bool)
    (HIS : Hid (∀ b e W, is e = b → Boxes W Bl Bj Bi v job (.func (.func 53) #[] #[]) l → Calls Try.prog 53 #[evV e] W fun r W' => r = .returned (.bool b) ∧ Kept (fun _ => False) W W')) (w : World) (hB : Boxes w Bl Bj Bi v job (.func (.func 53) #[] #[]) l) :
    SeqW Fence.wide n Try.prog 68 #[.pointer (some ⟨Bl, 0, none⟩), .pointer (some ⟨Bj, 0, none⟩), .pointer (some ⟨Bi, 0, none⟩)] (fun x : Nat × Ev => #[.int .i64 (x.1 : Nat), evV x.2]) (fun _ => False) (SKp Bl Bj Bi v l)
      (fun ys => ys = picks is job l l.length) (fun p => p <+: picks is job l l.length) w := fun lp J W hK hJ hY h0 =>
  (some_in53 n hn lp Bl Bj Bi v job l hl is HIS J (fun _ _ => False) hJ (fun pre x W h1 h2 => by
    obtain ⟨fn, tmps, assign, body, hyy, hR⟩ := hY pre x W h1 h2
    exact ⟨fn, tmps, assign, body, hyy, hR.mono fun e W' h => .inl h⟩) W (hB.same hK) h0).mono fun e W' ⟨h1, h2⟩ => ⟨h1, by
      rcases h2 with h2 | ⟨_, _, h2⟩
      · exact h2
      · exact h2.elim⟩

set_option maxRecDepth 100000 in
set_option maxHeartbeats 4000000 in
theorem some_in54 (n : Nat) (hn : 2 ≤ n) (lp Bl Bj Bi : Nat) (v : Value) (job : Int) (l : List Ev) (hl : l.length ≤ 1000000) (is : Ev → Bool)
    (HIS : Hid (∀ b e W, is e = b → Boxes W Bl Bj Bi v job (.func (.func 54) #[] #[]) l → Calls Try.prog 54 #[evV e] W fun r W' => r = .returned (.bool b) ∧ Kept (fun _ => False) W W')) (J Jx : List (Nat × Ev) → World → Prop)
    (hJ : ∀ s A B', J s A → Kept (fun _ => False) A B' → J s B')
    (hY : ∀ pre x W, J pre W → pre ++ [x] <+: picks is job l l.length → YieldAt Fence.wide (n - 1) Try.prog lp #[.int .i64 (x.1 : Nat), evV x.2] W fun e W' =>
      (e = .returned (.bool true) ∧ J (pre ++ [x]) W' ∧ SKp Bl Bj Bi v l W W') ∨ (e = .returned (.bool false) ∧ Jx (pre ++ [x]) W'))
    (W : World) (hB : Boxes W Bl Bj Bi v job (.func (.func 54) #[] #[]) l) (h0 : J [] W) :
    CallsIn Fence.wide n Try.prog 68 #[.func (.yield lp) #[] #[], .pointer (some ⟨Bl, 0, none⟩), .pointer (some ⟨Bj, 0, none⟩), .pointer (some ⟨Bi, 0, none⟩)] W fun e W' => (∃ v, e = .returned v) ∧
      ((∃ ys, ys = picks is job l l.length ∧ J ys W') ∨ ∃ pre, pre <+: picks is job l l.length ∧ Jx pre W') := by
  have HQ := Lib.hid hB
  have cl := hB.bl.get (j := 0) rfl
  obtain ⟨aa, cap, rfl⟩ := hB.rows.len
  obtain ⟨N, hN⟩ : ∃ N : Nat, N = l.length := ⟨_, rfl⟩
  rw [← hN] at hl HQ HIS hY cl ⊢
  have HN := Lib.hid hN
  have HJ0 := Lib.hid h0
  clear hB hN h0
  refine callsIn_of_wp Try.func68 rfl trivial ?_ rfl
  simp only [Try.ntmps68, List.size_toArray, List.length_cons, List.length_nil, Nat.reduceAdd, Nat.reduceSub, Array.replicate_succ, Array.replicate_zero, List.push_toArray, List.append_toArray, List.nil_append, List.cons_append]
  gi_wp2
  gi_loopw [9] (fun p wr => ∃ (k : Nat) (pre : List (Nat × Ev)), k ≤ N ∧ p = .int .i64 k ∧ pre = picks is job l k ∧ Boxes wr Bl Bj Bi (.slice aa N cap) job (.func (.func 54) #[] #[]) l ∧ J pre wr)
    (fun p _ => N - (intOf p).toNat)
  case atStart => exact ⟨0, [], Nat.zero_le _, rfl, rfl, HQ.out, HJ0.out⟩
  case round =>
    clear cl
    obtain ⟨k, pre, hk, rfl, hpre, hB, hj⟩ := hrel
    have HB := Lib.hid hB
    have HJ := Lib.hid hj
    have HP := Lib.hid hpre
    clear hB hj hpre
    obtain ⟨wo, hwo⟩ : ∃ wo : World, wo = wr := ⟨_, rfl⟩
    subst hwo
    by_cases hlt : k < N
    · have hkl : k < l.length := by have := HN.out; omega
      obtain ⟨b0, off, cap', hv, hcp, hb0, hrows⟩ := HB.out.rows.pos (by omega)
      rw [← HN.out] at hv
      injection hv with e1 e2 e3
      subst e1 e3
      have HX := Lib.hid (get_of hkl)
      have hx8 := hrows.ev HX.out
      generalize l[k] = x at HX hx8
      obtain ⟨a0, a1, a2, a3, a4, a5, a6, a7⟩ := hx8
      have HROW := Lib.hid (RowAt.new wo 35 (evC x).toArray)
      have HK0 := Lib.hid ((Kept.refl (fun _ => False) wo).alloc (.cells (evC x).toArray 35))
      have cj := HB.out.bj.get (j := 0) rfl
      have bjl := HB.out.bj.lt
      clear e2 hrows
      cases hof : ofB job x with
      | false =>
        have HNX : Hid (pre = picks is job l (k + 1)) := Lib.hid (by rw [picks_no HX.out (by rw [hof]; simp)]; exact HP.out)
        have HOF := Lib.hid hof
        clear hof
        gi_wp2_with fail
        refine ⟨trivial, fun h => (by cases h), ?_⟩
        refine (callsIn_wide.2 (of_b false x job _ HOF.out)).mono ?_
        rintro e w2 ⟨rfl, K2⟩
        have HK2 := Lib.hid (HK0.out.trans K2 (fun _ _ h => h))
        clear K2 HK0 HROW a0 a1 a2 a3 a4 a5 a6 a7 cj bjl
        gi_wp2
        refine ⟨fun _ h => (by cases h), ?_⟩
        gi_wp2
        refine ⟨fun _ h => (by cases h), ?_⟩
        gi_wp2
        go_roundw
        case rel => exact ⟨k + 1, pre, by omega, by go_num, HNX.out, HB.out.same HK2.out, hJ _ _ _ HJ.out HK2.out⟩
        case measure => simp [intOf]; omega
      | true =>
        have HOF := Lib.hid hof
        clear hof
        gi_wp2_with fail
        refine ⟨trivial, fun h => (by cases h), ?_⟩
        refine (callsIn_wide.2 (of_b true x job _ HOF.out)).mono ?_
        rintro e w2 ⟨rfl, K2⟩
        have HK2 := Lib.hid (HK0.out.trans K2 (fun _ _ h => h))
        have HR2 := Lib.hid (HROW.out.same K2)
        clear K2 HK0 HROW a0 a1 a2 a3 a4 a5 a6 a7 cj bjl
        obtain ⟨X, hX⟩ : ∃ X, wo.heap.size = X := ⟨_, rfl⟩
        rw [hX] at HR2 ⊢
        clear hX
        have HB2 := Lib.hid (HB.out.same HK2.out)
        have ci := HB2.out.bi.get (j := 0) rfl
        have bil := HB2.out.bi.lt
        have c0 := HR2.out.get (j := 0) rfl
        have c1 := HR2.out.get (j := 1) rfl
        have c2 := HR2.out.get (j := 2) rfl
        have c3 := HR2.out.get (j := 3) rfl
        have c4 := HR2.out.get (j := 4) rfl
        have c5 := HR2.out.get (j := 5) rfl
        have c6 := HR2.out.get (j := 6) rfl
        have c7 := HR2.out.get (j := 7) rfl
        have hb := HR2.out.lt
        cases his : is x with
        | false =>
          have HNX : Hid (pre = picks is job l (k + 1)) := Lib.hid (by rw [picks_no HX.out (by rw [his]; simp)]; exact HP.out)
          have HI := Lib.hid his
          clear his
          gi_wp2_with fail
          refine ⟨trivial, fun h => (by cases h), ?_⟩
          refine (callsIn_wide.2 (HIS.out false x _ HI.out HB2.out)).mono ?_
          rintro e w3 ⟨rfl, K3⟩
          have HK3 := Lib.hid (HK2.out.trans K3 (fun _ _ h => h))
          clear K3 ci bil c0 c1 c2 c3 c4 c5 c6 c7 hb
          gi_wp2
          refine ⟨fun _ h => (by cases h), ?_⟩
          gi_wp2
          go_roundw
          case rel => exact ⟨k + 1, pre, by omega, by go_num, HNX.out, HB.out.same HK3.out, hJ _ _ _ HJ.out HK3.out⟩
          case measure => simp [intOf]; omega
        | true =>
          have HNX : Hid (pre ++ [(k, x)] = picks is job l (k + 1)) := Lib.hid (by rw [picks_yes HX.out HOF.out his, HP.out])
          have HI := Lib.hid his
          clear his
          gi_wp2_with fail
          refine ⟨trivial, fun h => (by cases h), ?_⟩
          refine (callsIn_wide.2 (HIS.out true x _ HI.out HB2.out)).mono ?_
          rintro e w3 ⟨rfl, K3⟩
          have HK3 := Lib.hid (HK2.out.trans K3 (fun _ _ h => h))
          have hR3 := HR2.out.same K3
          clear K3 ci bil c0 c1 c2 c3 c4 c5 c6 c7 hb
          have c0 := hR3.get (j := 0) rfl
          have c1 := hR3.get (j := 1) rfl
          have c2 := hR3.get (j := 2) rfl
          have c3 := hR3.get (j := 3) rfl
          have c4 := hR3.get (j := 4) rfl
          have c5 := hR3.get (j := 5) rfl
          have c6 := hR3.get (j := 6) rfl
          have c7 := hR3.get (j := 7) rfl
          have hb := hR3.lt
          clear hR3
          obtain ⟨fn, tmps, assign, body, hyy, hR⟩ := hY pre (k, x) w3 (hJ _ _ _ HJ.out HK3.out) (by rw [HNX.out]; exact picks_prefix is job l (by omega))
          gi_wp2
          refine ⟨fun h => (by cases h), ?_⟩
          refine hR.mono ?_
          rintro e W3 (⟨rfl, hJ3, hk3⟩ | ⟨rfl, hJx3⟩)
          · have HB3 := Lib.hid ((HB.out.same HK3.out).skp hk3)
            clear hk3
            gi_wp2
            go_roundw
            case rel => exact ⟨k + 1, _, by omega, by go_num, HNX.out, HB3.out, hJ3⟩
            case measure => simp [intOf]; omega
          · gi_wp2
            refine bodyPost_ret (results_none rfl _ _ _) rfl ?_
            exact ⟨⟨_, rfl⟩, .inr ⟨_, by rw [HNX.out]; exact picks_prefix is job l (by omega), hJx3⟩⟩
    · obtain rfl : k = N := by omega
      gi_wp2
      go_end0
      exact ⟨⟨_, rfl⟩, .inl ⟨pre, HP.out, HJ.out⟩⟩

theorem some_seq54 (n : Nat) (hn : 2 ≤ n) (Bl Bj Bi : Nat) (v : Value) (job : Int) (l : List Ev) (hl : l.length ≤ 1000000) (is : Ev → Bool)
    (HIS : Hid (∀ b e W, is e = b → Boxes W Bl Bj Bi v job (.func (.func 54) #[] #[]) l → Calls Try.prog 54 #[evV e] W fun r W' => r = .returned (.bool b) ∧ Kept (fun _ => False) W W')) (w : World) (hB : Boxes w Bl Bj Bi v job (.func (.func 54) #[] #[]) l) :
    SeqW Fence.wide n Try.prog 68 #[.pointer (some ⟨Bl, 0, none⟩), .pointer (some ⟨Bj, 0, none⟩), .pointer (some ⟨Bi, 0, none⟩)] (fun x : Nat × Ev => #[.int .i64 (x.1 : Nat), evV x.2]) (fun _ => False) (SKp Bl Bj Bi v l)
      (fun ys => ys = picks is job l l.length) (fun p => p <+: picks is job l l.length) w := fun lp J W hK hJ hY h0 =>
  (some_in54 n hn lp Bl Bj Bi v job l hl is HIS J (fun _ _ => False) hJ (fun pre x W h1 h2 => by
    obtain ⟨fn, tmps, assign, body, hyy, hR⟩ := hY pre x W h1 h2
    exact ⟨fn, tmps, assign, body, hyy, hR.mono fun e W' h => .inl h⟩) W (hB.same hK) h0).mono fun e W' ⟨h1, h2⟩ => ⟨h1, by
      rcases h2 with h2 | ⟨_, _, h2⟩
      · exact h2
      · exact h2.elim⟩

set_option maxRecDepth 100000 in
set_option maxHeartbeats 4000000 in
theorem some_in57 (n : Nat) (hn : 2 ≤ n) (lp Bl Bj Bi : Nat) (v : Value) (job : Int) (l : List Ev) (hl : l.length ≤ 1000000) (is : Ev → Bool)
    (HIS : Hid (∀ b e W, is e = b → Boxes W Bl Bj Bi v job (.func (.func 57) #[] #[]) l → Calls Try.prog 57 #[evV e] W fun r W' => r = .returned (.bool b) ∧ Kept (fun _ => False) W W')) (J Jx : List (Nat × Ev) → World → Prop)
    (hJ : ∀ s A B', J s A → Kept (fun _ => False) A B' → J s B')
    (hY : ∀ pre x W, J pre W → pre ++ [x] <+: picks is job l l.length → YieldAt Fence.wide (n - 1) Try.prog lp #[.int .i64 (x.1 : Nat), evV x.2] W fun e W' =>
      (e = .returned (.bool true) ∧ J (pre ++ [x]) W' ∧ SKp Bl Bj Bi v l W W') ∨ (e = .returned (.bool false) ∧ Jx (pre ++ [x]) W'))
    (W : World) (hB : Boxes W Bl Bj Bi v job (.func (.func 57) #[] #[]) l) (h0 : J [] W) :
    CallsIn Fence.wide n Try.prog 68 #[.func (.yield lp) #[] #[], .pointer (some ⟨Bl, 0, none⟩), .pointer (some ⟨Bj, 0, none⟩), .pointer (some ⟨Bi, 0, none⟩)] W fun e W' => (∃ v, e = .returned v) ∧
      ((∃ ys, ys = picks is job l l.length ∧ J ys W') ∨ ∃ pre, pre <+: picks is job l l.length ∧ Jx pre W') := by
  have HQ := Lib.hid hB
  have cl := hB.bl.get (j := 0) rfl
  obtain ⟨aa, cap, rfl⟩ := hB.rows.len
  obtain ⟨N, hN⟩ : ∃ N : Nat, N = l.length := ⟨_, rfl⟩
  rw [← hN] at hl HQ HIS hY cl ⊢
  have HN := Lib.hid hN
  have HJ0 := Lib.hid h0
  clear hB hN h0
  refine callsIn_of_wp Try.func68 rfl trivial ?_ rfl
  simp only [Try.ntmps68, List.size_toArray, List.length_cons, List.length_nil, Nat.reduceAdd, Nat.reduceSub, Array.replicate_succ, Array.replicate_zero, List.push_toArray, List.append_toArray, List.nil_append, List.cons_append]
  gi_wp2
  gi_loopw [9] (fun p wr => ∃ (k : Nat) (pre : List (Nat × Ev)), k ≤ N ∧ p = .int .i64 k ∧ pre = picks is job l k ∧ Boxes wr Bl Bj Bi (.slice aa N cap) job (.func (.func 57) #[] #[]) l ∧ J pre wr)
    (fun p _ => N - (intOf p).toNat)
  case atStart => exact ⟨0, [], Nat.zero_le _, rfl, rfl, HQ.out, HJ0.out⟩
  case round =>
    clear cl
    obtain ⟨k, pre, hk, rfl, hpre, hB, hj⟩ := hrel
    have HB := Lib.hid hB
    have HJ := Lib.hid hj
    have HP := Lib.hid hpre
    clear hB hj hpre
    obtain ⟨wo, hwo⟩ : ∃ wo : World, wo = wr := ⟨_, rfl⟩
    subst hwo
    by_cases hlt : k < N
    · have hkl : k < l.length := by have := HN.out; omega
      obtain ⟨b0, off, cap', hv, hcp, hb0, hrows⟩ := HB.out.rows.pos (by omega)
      rw [← HN.out] at hv
      injection hv with e1 e2 e3
      subst e1 e3
      have HX := Lib.hid (get_of hkl)
      have hx8 := hrows.ev HX.out
      generalize l[k] = x at HX hx8
      obtain ⟨a0, a1, a2, a3, a4, a5, a6, a7⟩ := hx8
      have HROW := Lib.hid (RowAt.new wo 35 (evC x).toArray)
      have HK0 := Lib.hid ((Kept.refl (fun _ => False) wo).alloc (.cells (evC x).toArray 35))
      have cj := HB.out.bj.get (j := 0) rfl
      have bjl := HB.out.bj.lt
      clear e2 hrows
      cases hof : ofB job x with
      | false =>
        have HNX : Hid (pre = picks is job l (k + 1)) := Lib.hid (by rw [picks_no HX.out (by rw [hof]; simp)]; exact HP.out)
        have HOF := Lib.hid hof
        clear hof
        gi_wp2_with fail
        refine ⟨trivial, fun h => (by cases h), ?_⟩
        refine (callsIn_wide.2 (of_b false x job _ HOF.out)).mono ?_
        rintro e w2 ⟨rfl, K2⟩
        have HK2 := Lib.hid (HK0.out.trans K2 (fun _ _ h => h))
        clear K2 HK0 HROW a0 a1 a2 a3 a4 a5 a6 a7 cj bjl
        gi_wp2
        refine ⟨fun _ h => (by cases h), ?_⟩
        gi_wp2
        refine ⟨fun _ h => (by cases h), ?_⟩
        gi_wp2
        go_roundw
        case rel => exact ⟨k + 1, pre, by omega, by go_num, HNX.out, HB.out.same HK2.out, hJ _ _ _ HJ.out HK2.out⟩
        case measure => simp [intOf]; omega
      | true =>
        have HOF := Lib.hid hof
        clear hof
        gi_wp2_with fail
        refine ⟨trivial, fun h => (by cases h), ?_⟩
        refine (callsIn_wide.2 (of_b true x job _ HOF.out)).mono ?_
        rintro e w2 ⟨rfl, K2⟩
        have HK2 := Lib.hid (HK0.out.trans K2 (fun _ _ h => h))
        have HR2 := Lib.hid (HROW.out.same K2)
        clear K2 HK0 HROW a0 a1 a2 a3 a4 a5 a6 a7 cj bjl
        obtain ⟨X, hX⟩ : ∃ X, wo.heap.size = X := ⟨_, rfl⟩
        rw [hX] at HR2 ⊢
        clear hX
        have HB2 := Lib.hid (HB.out.same HK2.out)
        have ci := HB2.out.bi.get (j := 0) rfl
        have bil := HB2.out.bi.lt
        have c0 := HR2.out.get (j := 0) rfl
        have c1 := HR2.out.get (j := 1) rfl
        have c2 := HR2.out.get (j := 2) rfl
        have c3 := HR2.out.get (j := 3) rfl
        have c4 := HR2.out.get (j := 4) rfl
        have c5 := HR2.out.get (j := 5) rfl
        have c6 := HR2.out.get (j := 6) rfl
        have c7 := HR2.out.get (j := 7) rfl
        have hb := HR2.out.lt
        cases his : is x with
        | false =>
          have HNX : Hid (pre = picks is job l (k + 1)) := Lib.hid (by rw [picks_no HX.out (by rw [his]; simp)]; exact HP.out)
          have HI := Lib.hid his
          clear his
          gi_wp2_with fail
          refine ⟨trivial, fun h => (by cases h), ?_⟩
          refine (callsIn_wide.2 (HIS.out false x _ HI.out HB2.out)).mono ?_
          rintro e w3 ⟨rfl, K3⟩
          have HK3 := Lib.hid (HK2.out.trans K3 (fun _ _ h => h))
          clear K3 ci bil c0 c1 c2 c3 c4 c5 c6 c7 hb
          gi_wp2
          refine ⟨fun _ h => (by cases h), ?_⟩
          gi_wp2
          go_roundw
          case rel => exact ⟨k + 1, pre, by omega, by go_num, HNX.out, HB.out.same HK3.out, hJ _ _ _ HJ.out HK3.out⟩
          case measure => simp [intOf]; omega
        | true =>
          have HNX : Hid (pre ++ [(k, x)] = picks is job l (k + 1)) := Lib.hid (by rw [picks_yes HX.out HOF.out his, HP.out])
          have HI := Lib.hid his
          clear his
          gi_wp2_with fail
          refine ⟨trivial, fun h => (by cases h), ?_⟩
          refine (callsIn_wide.2 (HIS.out true x _ HI.out HB2.out)).mono ?_
          rintro e w3 ⟨rfl, K3⟩
          have HK3 := Lib.hid (HK2.out.trans K3 (fun _ _ h => h))
          have hR3 := HR2.out.same K3
          clear K3 ci bil c0 c1 c2 c3 c4 c5 c6 c7 hb
          have c0 := hR3.get (j := 0) rfl
          have c1 := hR3.get (j := 1) rfl
          have c2 := hR3.get (j := 2) rfl
          have c3 := hR3.get (j := 3) rfl
          have c4 := hR3.get (j := 4) rfl
          have c5 := hR3.get (j := 5) rfl
          have c6 := hR3.get (j := 6) rfl
          have c7 := hR3.get (j := 7) rfl
          have hb := hR3.lt
          clear hR3
          obtain ⟨fn, tmps, assign, body, hyy, hR⟩ := hY pre (k, x) w3 (hJ _ _ _ HJ.out HK3.out) (by rw [HNX.out]; exact picks_prefix is job l (by omega))
          gi_wp2
          refine ⟨fun h => (by cases h), ?_⟩
          refine hR.mono ?_
          rintro e W3 (⟨rfl, hJ3, hk3⟩ | ⟨rfl, hJx3⟩)
          · have HB3 := Lib.hid ((HB.out.same HK3.out).skp hk3)
            clear hk3
            gi_wp2
            go_roundw
            case rel => exact ⟨k + 1, _, by omega, by go_num, HNX.out, HB3.out, hJ3⟩
            case measure => simp [intOf]; omega
          · gi_wp2
            refine bodyPost_ret (results_none rfl _ _ _) rfl ?_
            exact ⟨⟨_, rfl⟩, .inr ⟨_, by rw [HNX.out]; exact picks_prefix is job l (by omega), hJx3⟩⟩
    · obtain rfl : k = N := by omega
      gi_wp2
      go_end0
      exact ⟨⟨_, rfl⟩, .inl ⟨pre, HP.out, HJ.out⟩⟩

theorem some_seq57 (n : Nat) (hn : 2 ≤ n) (Bl Bj Bi : Nat) (v : Value) (job : Int) (l : List Ev) (hl : l.length ≤ 1000000) (is : Ev → Bool)
    (HIS : Hid (∀ b e W, is e = b → Boxes W Bl Bj Bi v job (.func (.func 57) #[] #[]) l → Calls Try.prog 57 #[evV e] W fun r W' => r = .returned (.bool b) ∧ Kept (fun _ => False) W W')) (w : World) (hB : Boxes w Bl Bj Bi v job (.func (.func 57) #[] #[]) l) :
    SeqW Fence.wide n Try.prog 68 #[.pointer (some ⟨Bl, 0, none⟩), .pointer (some ⟨Bj, 0, none⟩), .pointer (some ⟨Bi, 0, none⟩)] (fun x : Nat × Ev => #[.int .i64 (x.1 : Nat), evV x.2]) (fun _ => False) (SKp Bl Bj Bi v l)
      (fun ys => ys = picks is job l l.length) (fun p => p <+: picks is job l l.length) w := fun lp J W hK hJ hY h0 =>
  (some_in57 n hn lp Bl Bj Bi v job l hl is HIS J (fun _ _ => False) hJ (fun pre x W h1 h2 => by
    obtain ⟨fn, tmps, assign, body, hyy, hR⟩ := hY pre x W h1 h2
    exact ⟨fn, tmps, assign, body, hyy, hR.mono fun e W' h => .inl h⟩) W (hB.same hK) h0).mono fun e W' ⟨h1, h2⟩ => ⟨h1, by
      rcases h2 with h2 | ⟨_, _, h2⟩
      · exact h2
      · exact h2.elim⟩

set_option maxRecDepth 100000 in
set_option maxHeartbeats 4000000 in
theorem some_in61 (n : Nat) (hn : 2 ≤ n) (lp Bl Bj Bi : Nat) (v : Value) (job : Int) (l : List Ev) (hl : l.length ≤ 1000000) (is : Ev → Bool)
    (HIS : Hid (∀ b e W, is e = b → Boxes W Bl Bj Bi v job (.func (.func 61) #[] #[]) l → Calls Try.prog 61 #[evV e] W fun r W' => r = .returned (.bool b) ∧ Kept (fun _ => False) W W')) (J Jx : List (Nat × Ev) → World → Prop)
    (hJ : ∀ s A B', J s A → Kept (fun _ => False) A B' → J s B')
    (hY : ∀ pre x W, J pre W → pre ++ [x] <+: picks is job l l.length → YieldAt Fence.wide (n - 1) Try.prog lp #[.int .i64 (x.1 : Nat), evV x.2] W fun e W' =>
      (e = .returned (.bool true) ∧ J (pre ++ [x]) W' ∧ SKp Bl Bj Bi v l W W') ∨ (e = .returned (.bool false) ∧ Jx (pre ++ [x]) W'))
    (W : World) (hB : Boxes W Bl Bj Bi v job (.func (.func 61) #[] #[]) l) (h0 : J [] W) :
    CallsIn Fence.wide n Try.prog 68 #[.func (.yield lp) #[] #[], .pointer (some ⟨Bl, 0, none⟩), .pointer (some ⟨Bj, 0, none⟩), .pointer (some ⟨Bi, 0, none⟩)] W fun e W' => (∃ v, e = .returned v) ∧
      ((∃ ys, ys = picks is job l l.length ∧ J ys W') ∨ ∃ pre, pre <+: picks is job l l.length ∧ Jx pre W') := by
  have HQ := Lib.hid hB
  have cl := hB.bl.get (j := 0) rfl
  obtain ⟨aa, cap, rfl⟩ := hB.rows.len
  obtain ⟨N, hN⟩ : ∃ N : Nat, N = l.length := ⟨_, rfl⟩
  rw [← hN] at hl HQ HIS hY cl ⊢
  have HN := Lib.hid hN
  have HJ0 := Lib.hid h0
  clear hB hN h0
  refine callsIn_of_wp Try.func68 rfl trivial ?_ rfl
  simp only [Try.ntmps68, List.size_toArray, List.length_cons, List.length_nil, Nat.reduceAdd, Nat.reduceSub, Array.replicate_succ, Array.replicate_zero, List.push_toArray, List.append_toArray, List.nil_append, List.cons_append]
  gi_wp2
  gi_loopw [9] (fun p wr => ∃ (k : Nat) (pre : List (Nat × Ev)), k ≤ N ∧ p = .int .i64 k ∧ pre = picks is job l k ∧ Boxes wr Bl Bj Bi (.slice aa N cap) job (.func (.func 61) #[] #[]) l ∧ J pre wr)
    (fun p _ => N - (intOf p).toNat)
  case atStart => exact ⟨0, [], Nat.zero_le _, rfl, rfl, HQ.out, HJ0.out⟩
  case round =>
    clear cl
    obtain ⟨k, pre, hk, rfl, hpre, hB, hj⟩ := hrel
    have HB := Lib.hid hB
    have HJ := Lib.hid hj
    have HP := Lib.hid hpre
    clear hB hj hpre
    obtain ⟨wo, hwo⟩ : ∃ wo : World, wo = wr := ⟨_, rfl⟩
    subst hwo
    by_cases hlt : k < N
    · have hkl : k < l.length := by have := HN.out; omega
      obtain ⟨b0, off, cap', hv, hcp, hb0, hrows⟩ := HB.out.rows.pos (by omega)
      rw [← HN.out] at hv
      injection hv with e1 e2 e3
      subst e1 e3
      have HX := Lib.hid (get_of hkl)
      have hx8 := hrows.ev HX.out
      generalize l[k] = x at HX hx8
      obtain ⟨a0, a1, a2, a3, a4, a5, a6, a7⟩ := hx8
      have HROW := Lib.hid (RowAt.new wo 35 (evC x).toArray)
      have HK0 := Lib.hid ((Kept.refl (fun _ => False) wo).alloc (.cells (evC x).toArray 35))
      have cj := HB.out.bj.get (j := 0) rfl
      have bjl := HB.out.bj.lt
      clear e2 hrows
      cases hof : ofB job x with
      | false =>
        have HNX : Hid (pre = picks is job l (k + 1)) := Lib.hid (by rw [picks_no HX.out (by rw [hof]; simp)]; exact HP.out)
        have HOF := Lib.hid hof
        clear hof
        gi_wp2_with fail
        refine ⟨trivial, fun h => (by cases h), ?_⟩
        refine (callsIn_wide.2 (of_b false x job _ HOF.out)).mono ?_
        rintro e w2 ⟨rfl, K2⟩
        have HK2 := Lib.hid (HK0.out.trans K2 (fun _ _ h => h))
        clear K2 HK0 HROW a0 a1 a2 a3 a4 a5 a6 a7 cj bjl
        gi_wp2
        refine ⟨fun _ h => (by cases h), ?_⟩
        gi_wp2
        refine ⟨fun _ h => (by cases h), ?_⟩
        gi_wp2
        go_roundw
        case rel => exact ⟨k + 1, pre, by omega, by go_num, HNX.out, HB.out.same HK2.out, hJ _ _ _ HJ.out HK2.out⟩
        case measure => simp [intOf]; omega
      | true =>
        have HOF := Lib.hid hof
        clear hof
        gi_wp2_with fail
        refine ⟨trivial, fun h => (by cases h), ?_⟩
        refine (callsIn_wide.2 (of_b true x job _ HOF.out)).mono ?_
        rintro e w2 ⟨rfl, K2⟩
        have HK2 := Lib.hid (HK0.out.trans K2 (fun _ _ h => h))
        have HR2 := Lib.hid (HROW.out.same K2)
        clear K2 HK0 HROW a0 a1 a2 a3 a4 a5 a6 a7 cj bjl
        obtain ⟨X, hX⟩ : ∃ X, wo.heap.size = X := ⟨_, rfl⟩
        rw [hX] at HR2 ⊢
        clear hX
        have HB2 := Lib.hid (HB.out.same HK2.out)
        have ci := HB2.out.bi.get (j := 0) rfl
        have bil := HB2.out.bi.lt
        have c0 := HR2.out.get (j := 0) rfl
        have c1 := HR2.out.get (j := 1) rfl
        have c2 := HR2.out.get (j := 2) rfl
        have c3 := HR2.out.get (j := 3) rfl
        have c4 := HR2.out.get (j := 4) rfl
        have c5 := HR2.out.get (j := 5) rfl
        have c6 := HR2.out.get (j := 6) rfl
        have c7 := HR2.out.get (j := 7) rfl
        have hb := HR2.out.lt
        cases his : is x with
        | false =>
          have HNX : Hid (pre = picks is job l (k + 1)) := Lib.hid (by rw [picks_no HX.out (by rw [his]; simp)]; exact HP.out)
          have HI := Lib.hid his
          clear his
          gi_wp2_with fail
          refine ⟨trivial, fun h => (by cases h), ?_⟩
          refine (callsIn_wide.2 (HIS.out false x _ HI.out HB2.out)).mono ?_
          rintro e w3 ⟨rfl, K3⟩
          have HK3 := Lib.hid (HK2.out.trans K3 (fun _ _ h => h))
          clear K3 ci bil c0 c1 c2 c3 c4 c5 c6 c7 hb
          gi_wp2
          refine ⟨fun _ h => (by cases h), ?_⟩
          gi_wp2
          go_roundw
          case rel => exact ⟨k + 1, pre, by omega, by go_num, HNX.out, HB.out.same HK3.out, hJ _ _ _ HJ.out HK3.out⟩
          case measure => simp [intOf]; omega
        | true =>
          have HNX : Hid (pre ++ [(k, x)] = picks is job l (k + 1)) := Lib.hid (by rw [picks_yes HX.out HOF.out his, HP.out])
          have HI := Lib.hid his
          clear his
          gi_wp2_with fail
          refine ⟨trivial, fun h => (by cases h), ?_⟩
          refine (callsIn_wide.2 (HIS.out true x _ HI.out HB2.out)).mono ?_
          rintro e w3 ⟨rfl, K3⟩
          have HK3 := Lib.hid (HK2.out.trans K3 (fun _ _ h => h))
          have hR3 := HR2.out.same K3
          clear K3 ci bil c0 c1 c2 c3 c4 c5 c6 c7 hb
          have c0 := hR3.get (j := 0) rfl
          have c1 := hR3.get (j := 1) rfl
          have c2 := hR3.get (j := 2) rfl
          have c3 := hR3.get (j := 3) rfl
          have c4 := hR3.get (j := 4) rfl
          have c5 := hR3.get (j := 5) rfl
          have c6 := hR3.get (j := 6) rfl
          have c7 := hR3.get (j := 7) rfl
          have hb := hR3.lt
          clear hR3
          obtain ⟨fn, tmps, assign, body, hyy, hR⟩ := hY pre (k, x) w3 (hJ _ _ _ HJ.out HK3.out) (by rw [HNX.out]; exact picks_prefix is job l (by omega))
          gi_wp2
          refine ⟨fun h => (by cases h), ?_⟩
          refine hR.mono ?_
          rintro e W3 (⟨rfl, hJ3, hk3⟩ | ⟨rfl, hJx3⟩)
          · have HB3 := Lib.hid ((HB.out.same HK3.out).skp hk3)
            clear hk3
            gi_wp2
            go_roundw
            case rel => exact ⟨k + 1, _, by omega, by go_num, HNX.out, HB3.out, hJ3⟩
            case measure => simp [intOf]; omega
          · gi_wp2
            refine bodyPost_ret (results_none rfl _ _ _) rfl ?_
            exact ⟨⟨_, rfl⟩, .inr ⟨_, by rw [HNX.out]; exact picks_prefix is job l (by omega), hJx3⟩⟩
    · obtain rfl : k = N := by omega
      gi_wp2
      go_end0
      exact ⟨⟨_, rfl⟩, .inl ⟨pre, HP.out, HJ.out⟩⟩

theorem some_seq61 (n : Nat) (hn : 2 ≤ n) (Bl Bj Bi : Nat) (v : Value) (job : Int) (l : List Ev) (hl : l.length ≤ 1000000) (is : Ev → Bool)
    (HIS : Hid (∀ b e W, is e = b → Boxes W Bl Bj Bi v job (.func (.func 61) #[] #[]) l → Calls Try.prog 61 #[evV e] W fun r W' => r = .returned (.bool b) ∧ Kept (fun _ => False) W W')) (w : World) (hB : Boxes w Bl Bj Bi v job (.func (.func 61) #[] #[]) l) :
    SeqW Fence.wide n Try.prog 68 #[.pointer (some ⟨Bl, 0, none⟩), .pointer (some ⟨Bj, 0, none⟩), .pointer (some ⟨Bi, 0, none⟩)] (fun x : Nat × Ev => #[.int .i64 (x.1 : Nat), evV x.2]) (fun _ => False) (SKp Bl Bj Bi v l)
      (fun ys => ys = picks is job l l.length) (fun p => p <+: picks is job l l.length) w := fun lp J W hK hJ hY h0 =>
  (some_in61 n hn lp Bl Bj Bi v job l hl is HIS J (fun _ _ => False) hJ (fun pre x W h1 h2 => by
    obtain ⟨fn, tmps, assign, body, hyy, hR⟩ := hY pre x W h1 h2
    exact ⟨fn, tmps, assign, body, hyy, hR.mono fun e W' h => .inl h⟩) W (hB.same hK) h0).mono fun e W' ⟨h1, h2⟩ => ⟨h1, by
      rcases h2 with h2 | ⟨_, _, h2⟩
      · exact h2
      · exact h2.elim⟩

end Go.Proofs.Ytfhlllmicobafaa
