/- WiPeak: texts for the statements of this seat: contracts of functions, walks, plain laws. Conditions: none. -/
import Derived.Test.YtelgknecainlfaaWiRuns
set_option linter.all false
/- The reference's Peak. -/
namespace Go.Proofs.Ytelgknecainlfaa
open Go.RowKit
open Wi (vld Srt chk)

theorem results_tmp3 {fn : Func} {t u v : Tmp} (h : fn.results = #[.tmp t, .tmp u, .tmp v]) (tmps : Array Value) (P : Program) (w : World) :
    (results fn tmps).run P w = .ok (.tuple #[tmps.getD t undef, tmps.getD u undef, tmps.getD v undef]) w := by
  simp [results, h]
/-- The most runs at a time, and the first time of so many. -/
structure Pk (f g : List Int) (n : Nat) (t : Int) : Prop where
  top : ∀ x ∈ f, atF f g x ≤ n
  low : 0 < n → ∀ x ∈ f, atF f g x = n → t ≤ x
  is : 0 < n → t ∈ f ∧ atF f g t = n
  no : n = 0 → t = 0
theorem Pk.unique {f g : List Int} {n m : Nat} {t u : Int} (h : Pk f g n t) (k : Pk f g m u) : n = m ∧ t = u := by
  have e : n = m := by
    have h1 : n ≤ m := by
      rcases Nat.eq_zero_or_pos n with q | q
      · omega
      · obtain ⟨a, b⟩ := h.is q; have := k.top _ a; omega
    have h2 : m ≤ n := by
      rcases Nat.eq_zero_or_pos m with q | q
      · omega
      · obtain ⟨a, b⟩ := k.is q; have := h.top _ a; omega
    omega
  subst e
  refine ⟨rfl, ?_⟩
  rcases Nat.eq_zero_or_pos n with q | q
  · rw [h.no q, k.no q]
  · obtain ⟨a, b⟩ := h.is q
    obtain ⟨c, d⟩ := k.is q
    have := h.low q _ c d
    have := k.low q _ a b
    omega
def PeakPost (f g : List Int) (w : World) (e : Ending) (w' : World) : Prop := ∃ (n : Nat) (t : Int), e = .returned (.tuple #[.int .i64 n, .int .i64 t, .int .i64 (runsE f g)]) ∧ (if runsE f g = 0 then Pk f g n t else n = 0 ∧ t = 0) ∧ n ≤ f.length ∧ Kept (fun _ => False) w w'
/-- Of the first runs. -/
structure PkU (f g : List Int) (i n : Nat) (t : Int) : Prop where
  top : ∀ q x, q < i → f[q]? = some x → atF f g x ≤ n
  low : 0 < n → ∀ q x, q < i → f[q]? = some x → atF f g x = n → t ≤ x
  is : 0 < n → t ∈ f ∧ atF f g t = n
  no : n = 0 → t = 0
theorem PkU.done {f g : List Int} {i n : Nat} {t : Int} (h : PkU f g i n t) (hi : f.length ≤ i) : Pk f g n t := ⟨fun x hx => by
    obtain ⟨q, hq⟩ := List.getElem?_of_mem hx
    exact h.top q x (by have := (List.getElem?_eq_some_iff.1 hq).1; omega) hq, fun h0 x hx => by
    obtain ⟨q, hq⟩ := List.getElem?_of_mem hx
    exact h.low h0 q x (by have := (List.getElem?_eq_some_iff.1 hq).1; omega) hq, h.is, h.no⟩
theorem PkU.start (f g : List Int) : PkU f g 0 0 0 := ⟨fun q _ h => absurd h (by omega), fun h => absurd h (by omega), fun h => absurd h (by omega), fun _ => rfl⟩
theorem PkU.take {f g : List Int} {i n : Nat} {t x : Int} (h : PkU f g i n t) (hx : f[i]? = some x) (hn : n < atF f g x ∨ (n = atF f g x ∧ 0 < n ∧ x < t)) : PkU f g (i + 1) (atF f g x) x := ⟨fun q y hq hy => by
    by_cases e : q = i
    · subst e; rw [hx] at hy; injection hy with hy; subst hy; exact Nat.le_refl _
    · have := h.top q y (by omega) hy; omega, fun h0 q y hq hy ha => by
    by_cases e : q = i
    · subst e; rw [hx] at hy; injection hy with hy; omega
    · have h1 := h.top q y (by omega) hy
      rcases hn with c | ⟨c, _, d⟩
      · omega
      · have := h.low (by omega) q y (by omega) hy (by omega); omega, fun h0 => ⟨List.mem_of_getElem? hx, rfl⟩, fun h0 => by
    rcases hn with c | ⟨c, _, d⟩
    · omega
    · omega⟩
theorem PkU.pass {f g : List Int} {i n : Nat} {t x : Int} (h : PkU f g i n t) (hx : f[i]? = some x) (hn : atF f g x ≤ n) (h2 : atF f g x = n → 0 < n → t ≤ x) : PkU f g (i + 1) n t := ⟨fun q y hq hy => by
    by_cases e : q = i
    · subst e; rw [hx] at hy; injection hy with hy; subst hy; exact hn
    · exact h.top q y (by omega) hy, fun h0 q y hq hy ha => by
    by_cases e : q = i
    · subst e; rw [hx] at hy; injection hy with hy; subst hy; exact h2 ha h0
    · exact h.low h0 q y (by omega) hy ha, h.is, h.no⟩
set_option maxRecDepth 100000 in
set_option maxHeartbeats 4000000 in
theorem rpeak_c {w : World} {v u : Value} {f g : List Int} (h : Ints w v f) (k : Ints w u g) (hl : f.length ≤ 4611686018427387904) (hl2 : g.length ≤ 4611686018427387904) : Calls Try.prog 24 #[v, u] w (PeakPost f g w) := by
  have HR := Lib.hid (runs_c h k hl hl2)
  by_cases hr : runsE f g = 0
  · have hfg : f.length = g.length ∧ f.length ≤ 100000 := by
      unfold runsE at hr
      split at hr
      · cases hr
      · split at hr
        · cases hr
        · constructor <;> omega
    have HQ := Lib.hid h
    have HA := Lib.hid (fun w' (K : Kept (fun _ => False) w w') t => at_c (h.same K) (k.same K) hfg.2 hfg.1 t)
    have HLE := Lib.hid (fun t => atF_le f g t)
    rw [hr] at HR
    have HE := Lib.hid hr
    obtain ⟨aa, cap, rfl⟩ := h.len
    obtain ⟨ab, cbp, rfl⟩ := k.len
    have hl5 := hfg.2
    clear hr hl hl2 h k hfg
    obtain ⟨n, hn⟩ : ∃ n : Nat, n = f.length := ⟨_, rfl⟩
    rw [← hn] at hl5 HQ HR HA HLE ⊢
    generalize g.length = m at HR HA ⊢
    have HN := Lib.hid hn
    clear hn
    go_enter Try.func24, Try.ntmps24
    go_wp2_with (go_at_call 43; fail)
    refine HR.out.mono ?_
    rintro e w1 ⟨rfl, K1⟩
    have HK1 := Lib.hid K1
    clear K1
    go_wp2
    go_loopw [8, 9, 10] (fun bv tv iv' wr => ∃ (i b : Nat) (t : Int), i ≤ n ∧ iv' = .int .i64 i ∧ bv = .int .i64 b ∧ tv = .int .i64 t ∧ b ≤ n ∧ PkU f g i b t ∧ Kept (fun _ => False) w1 wr) (fun _ _ i _ => match i with | .int _ x => (n - x).toNat | _ => 0)
    case atStart => exact ⟨0, 0, 0, Nat.zero_le _, rfl, rfl, rfl, Nat.zero_le _, PkU.start f g, Kept.refl _ _⟩
    case round =>
      obtain ⟨i, b, t, hi, rfl, rfl, rfl, hbn, hp, K⟩ := hrel
      have HP := Lib.hid hp
      have HK := Lib.hid K
      clear hp K
      by_cases hlt : i < n
      · have hil : i < f.length := by have := HN.out; omega
        obtain ⟨b0, off, cap', hv, hb0, hcell⟩ := ((HQ.out.same HK1.out).same HK.out).pos (by have := HN.out; omega)
        rw [← HN.out] at hv
        injection hv with e1 e2 e3
        subst e1 e3
        have c0 := IntsK.at hcell hil
        clear hcell
        have HX := Lib.hid (get_of hil)
        generalize f[i] = x at c0 HX
        have HC := Lib.hid (HA.out _ (HK1.out.trans HK.out (fun _ _ h => h)) x)
        have HP1 := Lib.hid (fun h => HP.out.take HX.out h)
        have HP2 := Lib.hid (fun h h2 => HP.out.pass HX.out h h2)
        have hcn := HLE.out x
        generalize atF f g x = c at HC HP1 HP2 hcn
        by_cases h1 : b < c
        · have HPN := Lib.hid (HP1.out (.inl h1))
          clear HP1 HP2
          go_wp2_with (go_at_call 44; refine HC.out.mono ?_; rintro e w' ⟨rfl, rfl⟩)
          go_roundw
          case rel => exact ⟨i + 1, c, x, by omega, by go_num, rfl, rfl, by omega, HPN.out, HK.out⟩
          case measure => simp; omega
        · by_cases h2 : c = b ∧ 0 < c ∧ x < t
          · obtain ⟨rfl, h3, h4⟩ := h2
            have HPN := Lib.hid (HP1.out (.inr ⟨rfl, h3, h4⟩))
            clear HP1 HP2
            go_wp2_with (go_at_call 44; refine HC.out.mono ?_; rintro e w' ⟨rfl, rfl⟩)
            go_roundw
            case rel => exact ⟨i + 1, c, x, by omega, by go_num, rfl, rfl, by omega, HPN.out, HK.out⟩
            case measure => simp; omega
          · have HPN := Lib.hid (HP2.out (by omega) (fun _ _ => by omega))
            clear HP1 HP2
            by_cases h5 : c = b
            · subst h5
              by_cases h6 : 0 < c
              · have h7 : ¬ x < t := fun q => h2 ⟨rfl, h6, q⟩
                go_wp2_with (go_at_call 44; refine HC.out.mono ?_; rintro e w' ⟨rfl, rfl⟩)
                go_roundw
                case rel => exact ⟨i + 1, c, t, by omega, by go_num, rfl, rfl, by omega, HPN.out, HK.out⟩
                case measure => simp; omega
              · obtain rfl : c = 0 := by omega
                go_wp2_with (go_at_call 44; refine HC.out.mono ?_; rintro e w' ⟨rfl, rfl⟩)
                go_roundw
                case rel => exact ⟨i + 1, 0, t, by omega, by go_num, rfl, rfl, by omega, HPN.out, HK.out⟩
                case measure => simp; omega
            · have h8 : ((c : Int) == (b : Int)) = false := by simp; omega
              have h9 : ¬ (c : Int) = (b : Int) := by omega
              go_wp2_with (go_at_call 44; refine HC.out.mono ?_; rintro e w' ⟨rfl, rfl⟩)
              go_roundw
              case rel => exact ⟨i + 1, b, t, by omega, by go_num, rfl, rfl, by omega, HPN.out, HK.out⟩
              case measure => simp; omega
      · have HF : Hid (Pk f g b t) := Lib.hid (HP.out.done (by have := HN.out; omega))
        go_wp2
        refine bodyPost_ret (results_tmp3 rfl _ _ _) rfl ?_
        exact ⟨b, t, by rw [HE.out]; rfl, by rw [if_pos HE.out]; exact HF.out, by have := HN.out; omega, HK1.out.trans HK.out (fun _ _ h => h)⟩
  · have HE := Lib.hid hr
    obtain ⟨aa, cap, rfl⟩ := h.len
    obtain ⟨ab, cbp, rfl⟩ := k.len
    obtain ⟨r, hrr⟩ : ∃ r, runsE f g = r := ⟨_, rfl⟩
    rw [hrr] at hr HR
    have hb : (r == 0) = false := by simpa using hr
    have hb2 : (r != 0) = true := by simpa using hr
    have HRR := Lib.hid hrr
    clear hrr h k
    go_enter Try.func24, Try.ntmps24
    go_wp2_with (go_at_call 43; fail)
    refine HR.out.mono ?_
    rintro e w1 ⟨rfl, K1⟩
    go_wp2
    refine bodyPost_ret (results_tmp3 rfl _ _ _) rfl ?_
    exact ⟨0, 0, by rw [HRR.out]; rfl, by rw [if_neg HE.out]; exact ⟨rfl, rfl⟩, Nat.zero_le _, K1⟩
end Go.Proofs.Ytelgknecainlfaa
