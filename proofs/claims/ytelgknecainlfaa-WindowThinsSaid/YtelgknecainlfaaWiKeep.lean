/- WiKeep: texts for the statements of this seat: contracts of functions, walks, plain laws. Conditions: none. -/
import Derived.Test.YtelgknecainlfaaWiW5
import Derived.Test.YtelgknecainlfaaArQuiet
set_option linter.all false
/- Keeps: what it says; the reference's Keeps. -/
namespace Go.Proofs.Ytelgknecainlfaa
open Go.RowKit
open Wi (vld Srt chk limB limE inS longE)

theorem results_tmp4 {fn : Func} {t u v x : Tmp} (h : fn.results = #[.tmp t, .tmp u, .tmp v, .tmp x]) (tmps : Array Value) (P : Program) (w : World) :
    (results fn tmps).run P w = .ok (.tuple #[tmps.getD t undef, tmps.getD u undef, tmps.getD v undef, tmps.getD x undef]) w := by
  simp [results, h]
/-- b comes too early after a. -/
def Ey (T U : Int) (l : List Int) (a b : Nat) : Prop := 0 < T ∧ ∃ x y, l[a]? = some x ∧ l[b]? = some y ∧ y - x + U < ((b : Int) - a) * T
theorem Ey.of {T U : Int} {l : List Int} {a b : Nat} {x y : Int} (hx : l[a]? = some x) (hy : l[b]? = some y) : early T U ((b : Int) - a) (y - x) = true ↔ Ey T U l a b := by
  unfold early
  simp only [Bool.and_eq_true, decide_eq_true_eq]
  constructor
  · exact fun h => ⟨h.1, x, y, hx, hy, h.2⟩
  · rintro ⟨h1, x', y', hx', hy', h⟩
    rw [hx] at hx'
    rw [hy] at hy'
    injection hx' with hx'
    injection hy' with hy'
    subst hx' hy'
    exact ⟨h1, h⟩
theorem Ey.lt {T U : Int} {l : List Int} {a b : Nat} (h : Ey T U l a b) : a < l.length ∧ b < l.length := by
  obtain ⟨-, x, y, hx, hy, -⟩ := h
  exact ⟨(List.getElem?_eq_some_iff.1 hx).1, (List.getElem?_eq_some_iff.1 hy).1⟩
/-- What Keeps says. -/
def KeepsR (T U : Int) (l : List Int) (i j : Int) (is : Bool) : Prop :=
  (is = true ∧ i = 0 ∧ j = 0 ∧ ∀ a b, a < b → ¬ Ey T U l a b) ∨
    (is = false ∧ ∃ a b : Nat, i = a ∧ j = b ∧ a < b ∧ Ey T U l a b ∧ (∀ a' b', a' < b' → b' < b → ¬ Ey T U l a' b') ∧ ∀ a', a < a' → a' < b → ¬ Ey T U l a' b)
theorem KeepsR.unique {T U : Int} {l : List Int} {i j i' j' : Int} {is is' : Bool} (h : KeepsR T U l i j is) (h' : KeepsR T U l i' j' is') : i = i' ∧ j = j' ∧ is = is' := by
  rcases h with ⟨rfl, rfl, rfl, h⟩ | ⟨rfl, a, b, rfl, rfl, hab, hE, h1, h2⟩
  · rcases h' with ⟨rfl, rfl, rfl, -⟩ | ⟨rfl, a, b, rfl, rfl, hab, hE, -⟩
    · exact ⟨rfl, rfl, rfl⟩
    · exact absurd hE (h a b hab)
  · rcases h' with ⟨rfl, rfl, rfl, h'⟩ | ⟨rfl, a', b', rfl, rfl, hab', hE', h1', h2'⟩
    · exact absurd hE (h' a b hab)
    · have e : b = b' := by
        rcases Nat.lt_trichotomy b b' with q | q | q
        · exact absurd hE (h1' a b hab q)
        · exact q
        · exact absurd hE' (h1 a' b' hab' q)
      subst e
      have e : a = a' := by
        rcases Nat.lt_trichotomy a a' with q | q | q
        · exact absurd hE' (h2 a' q hab')
        · exact q
        · exact absurd hE (h2' a q hab)
      subst e
      exact ⟨rfl, rfl, rfl⟩
def KeepsPost (T U : Int) (l : List Int) (w : World) (e : Ending) (w' : World) : Prop :=
  ∃ i j is, e = .returned (.tuple #[.int .i64 i, .int .i64 j, .bool is, .int .i64 (bothE T U l)]) ∧ (if bothE T U l = 0 then KeepsR T U l i j is else i = 0 ∧ j = 0 ∧ is = false) ∧ Kept (fun _ => False) w w'
theorem bothE_ok {T U : Int} {l : List Int} (h : bothE T U l = 0) : limE T U = 0 ∧ Wi.Good l := by
  unfold bothE at h
  split at h
  · cases h
  · rename_i q
    exact ⟨by simpa using q, Wi.chk_good.1 h⟩
set_option maxRecDepth 100000 in
set_option maxHeartbeats 4000000 in
theorem rkeeps_c {w : World} {v : Value} {l : List Int} (h : Ints w v l) (hl : l.length ≤ 4611686018427387904) (T U : Int) : Calls Try.prog 16 #[.agg #[.int .i64 T, .int .i64 U], v] w (KeepsPost T U l w) := by
  have HROW := Lib.hid (RowAt.new w 23 #[.int .i64 T, .int .i64 U])
  have HK0 := Lib.hid ((Kept.refl (fun _ => False) w).alloc (.cells #[.int .i64 T, .int .i64 U] 23))
  have HC := Lib.hid (fun W K => both35_c (w := W) (h.same K) hl T U)
  have HQ := Lib.hid h
  obtain ⟨aa, cap, rfl⟩ := h.len
  obtain ⟨n, hn⟩ : ∃ n : Nat, n = l.length := ⟨_, rfl⟩
  rw [← hn] at hl HC HQ ⊢
  have HN := Lib.hid hn
  clear h hn
  by_cases hz : bothE T U l = 0
  · obtain ⟨hlim, hg⟩ := bothE_ok hz
    obtain ⟨⟨t1, t2⟩, ⟨u1, u2⟩, hTU⟩ := limE_ok hlim
    have hn5 : n ≤ 100000 := by have := hg.len; have := HN.out; omega
    have HG := Lib.hid hg.vld
    have HZ := Lib.hid hz
    clear hz hlim hg
    go_enter Try.func16, Try.ntmps16
    go_wp2_with (go_at_call 35; fail)
    refine (HC.out _ HK0.out).mono ?_
    rintro e w1 ⟨rfl, K1⟩
    rw [HZ.out]
    have HR1 := Lib.hid (HROW.out.same K1)
    have HK1 := Lib.hid (HK0.out.trans K1 (fun _ _ h => h))
    clear K1 HROW HK0 HC
    obtain ⟨A, hA⟩ : ∃ A, w.heap.size = A := ⟨_, rfl⟩
    rw [hA] at HR1 ⊢
    clear hA
    go_wp2
    go_loopw [9] (fun i wr => ∃ j : Nat, j ≤ n ∧ i = .int .i64 j ∧ (∀ a b, a < b → b < j → ¬ Ey T U l a b) ∧ Kept (fun _ => False) w1 wr) (fun i _ => match i with | .int _ x => (n - x).toNat | _ => 0)
    case atStart => exact ⟨0, Nat.zero_le _, rfl, fun a b _ hb => absurd hb (by omega), Kept.refl _ _⟩
    case round =>
      obtain ⟨j, hj, rfl, hno, K⟩ := hrel
      have HNO := Lib.hid hno
      have HK := Lib.hid K
      clear hno K
      by_cases hlt : j < n
      · have hjl : j < l.length := by have := HN.out; omega
        have e0 : (j : Int) - 1 = ((j : Nat) : Int) - 1 := rfl
        go_wp2
        go_loopw [10] (fun i wy => ∃ q : Nat, q ≤ j ∧ i = .int .i64 ((q : Int) - 1) ∧ (∀ a, q ≤ a → a < j → ¬ Ey T U l a j) ∧ Kept (fun _ => False) w1 wy) (fun i _ => match i with | .int _ x => (x + 1).toNat | _ => 0)
        case atStart => exact ⟨j, Nat.le_refl _, rfl, fun a h1 h2 => absurd h1 (by omega), HK.out⟩
        case round =>
          obtain ⟨q, hq, rfl, hno2, K⟩ := hrel
          have HNO2 := Lib.hid hno2
          have HK2 := Lib.hid K
          clear hno2 K
          rename_i wy
          have HR2 := Lib.hid (HR1.out.same HK2.out)
          by_cases hq0 : q = 0
          · subst hq0
            have HNO3 : Hid (∀ a b, a < b → b < j + 1 → ¬ Ey T U l a b) := Lib.hid fun a b hab hb => by
              by_cases e : b = j
              · subst e; exact HNO2.out a (by omega) hab
              · exact HNO.out a b hab (by omega)
            have hneg : ¬ (0 : Int) ≤ ((0 : Nat) : Int) - 1 := by omega
            go_wp2
            go_roundw
            case rel => exact ⟨j + 1, by omega, by go_num, HNO3.out, HK2.out⟩
            case measure => simp; omega
          · obtain ⟨a, rfl⟩ : ∃ a, q = a + 1 := ⟨q - 1, by omega⟩
            have ea : ((a + 1 : Nat) : Int) - 1 = (a : Int) := by omega
            rw [ea]
            have hal : a < l.length := by have := HN.out; omega
            obtain ⟨b0, off, cap', hv, hb0, hcell⟩ := ((HQ.out.same HK1.out).same HK2.out).pos (by have := HN.out; omega)
            rw [← HN.out] at hv
            injection hv with e1 e2 e3
            subst e1 e3
            have c0 := IntsK.at hcell hal
            have c1 := IntsK.at hcell hjl
            have hx := HG.out l[a] (List.getElem_mem hal)
            have hy := HG.out l[j] (List.getElem_mem hjl)
            have HE := Lib.hid (Ey.of (T := T) (U := U) (get_of hal) (get_of hjl))
            clear hcell
            generalize l[a] = x at c0 hx HE
            generalize l[j] = y at c1 hy HE
            have d0 := HR2.out.get (j := 0) rfl
            have d1 := HR2.out.get (j := 1) rfl
            have hA : A < wr.heap.size := HR2.out.lt
            have hw1 : IntKind.i64.wrap ((j : Int) - (a : Int)) = (j : Int) - (a : Int) := IntWalk.i64_in _ (by omega)
            have hw2 : IntKind.i64.wrap (y - x) = y - x := IntWalk.i64_in _ (by omega)
            have HCE : Hid (∀ W, Calls Try.prog 36 #[.agg #[.int .i64 T, .int .i64 U], .int .i64 ((j : Int) - (a : Int)), .int .i64 (y - x)] W fun e w' => e = .returned (.bool (early T U ((j : Int) - a) (y - x))) ∧ Kept (fun _ => False) W w') := Lib.hid fun W => early_c T U _ _ W ⟨t1, t2⟩ ⟨u1, u2⟩ (by omega) (by omega)
            obtain ⟨r, hr⟩ : ∃ r, early T U ((j : Int) - a) (y - x) = r := ⟨_, rfl⟩
            rw [hr] at HCE HE
            clear hr
            have han : a < n := by omega
            go_wp2_with fail
            refine wp_region_class (fun W => (W.cell? ⟨A, 0, none⟩ = some (.int .i64 T) ∧ W.cell? ⟨A, 1, none⟩ = some (.int .i64 U) ∧ W.cell? ⟨b0, off + a, none⟩ = some (.int .i64 x) ∧ W.cell? ⟨b0, off + j, none⟩ = some (.int .i64 y)) ∧ (A < W.heap.size ∧ b0 < W.heap.size) ∧ Kept (fun _ => False) wr W) (by kernel_rfl) (by kernel_rfl) ⟨⟨d0, d1, c0, c1⟩, ⟨hA, hb0⟩, (Kept.refl _ _).drew⟩ ?_
            clear c0 c1 d0 d1 hA hb0
            iterate 13 (refine wpQuiet_yes rfl ?_ (fun W hC => ?_) ?_; rotate_left; (obtain ⟨⟨d0, d1, c0, c1⟩, -, -⟩ := hC; go_simp; rfl); go_simp)
            refine wpQuiet_yes rfl (.bool r) (fun W hC => ?_) ?_
            · obtain ⟨⟨d0, d1, c0, c1⟩, ⟨l1, l2⟩, K0⟩ := hC
              go_simp
              refine (HCE.out W).mono ?_
              rintro e3 W' ⟨rfl, K⟩
              exact ⟨rfl, ⟨(K.cell (a := ⟨A, 0, none⟩) l1 (fun h => h)).trans d0, (K.cell (a := ⟨A, 1, none⟩) l1 (fun h => h)).trans d1, (K.cell (a := ⟨b0, off + a, none⟩) l2 (fun h => h)).trans c0, (K.cell (a := ⟨b0, off + j, none⟩) l2 (fun h => h)).trans c1⟩, ⟨Nat.lt_of_lt_of_le l1 K.size, Nat.lt_of_lt_of_le l2 K.size⟩, K0.trans K (fun _ _ h => h)⟩
            go_simp
            refine wpQuiet_nil ?_
            intro W8 _ _ _ _ _ _ K8
            have HK8 := Lib.hid (HK2.out.trans K8 (fun _ _ h => h))
            clear K8
            cases r with
            | true =>
              have HKR : Hid (KeepsR T U l a j false) := Lib.hid (.inr ⟨rfl, a, j, rfl, rfl, by omega, HE.out.1 rfl, HNO.out, fun a' h1 h2 => HNO2.out a' (by omega) h2⟩)
              go_wp2
              (try simp only [Exit.inBlock, Exit.then])
              refine bodyPost_ret (results_tmp4 rfl _ _ _) rfl ?_
              exact ⟨a, j, false, by rw [HZ.out]; rfl, by rw [if_pos HZ.out]; exact HKR.out, HK1.out.trans HK8.out (fun _ _ h => h)⟩
            | false =>
              have HNO3 : Hid (∀ a', a ≤ a' → a' < j → ¬ Ey T U l a' j) := Lib.hid fun a' h1 h2 => by
                by_cases e : a' = a
                · subst e; exact fun q => by have := HE.out.2 q; cases this
                · exact HNO2.out a' (by omega) h2
              go_wp2
              go_roundw
              case rel => exact ⟨a, by omega, by go_num, HNO3.out, HK8.out⟩
              case measure => simp
      · have HKR : Hid (KeepsR T U l 0 0 true) := Lib.hid (.inl ⟨rfl, rfl, rfl, fun a b hab hE => HNO.out a b hab (by have := hE.lt; have := HN.out; omega) hE⟩)
        go_wp2
        (try simp only [Exit.inBlock, Exit.then])
        refine bodyPost_ret (results_tmp4 rfl _ _ _) rfl ?_
        exact ⟨0, 0, true, by rw [HZ.out]; rfl, by rw [if_pos HZ.out]; exact HKR.out, HK1.out.trans HK.out (fun _ _ h => h)⟩
  · have HZ := Lib.hid hz
    obtain ⟨r, hr⟩ : ∃ r, bothE T U l = r := ⟨_, rfl⟩
    rw [hr] at hz
    have hb : (r != 0) = true := by simpa using hz
    have HRR := Lib.hid hr
    clear hz hr
    go_enter Try.func16, Try.ntmps16
    go_wp2_with (go_at_call 35; fail)
    refine (HC.out _ HK0.out).mono ?_
    rintro e w1 ⟨rfl, K1⟩
    rw [HRR.out]
    go_wp2
    (try simp only [Exit.inBlock, Exit.then])
    refine bodyPost_ret (results_tmp4 rfl _ _ _) rfl ?_
    exact ⟨0, 0, false, by rw [HRR.out]; rfl, by rw [if_neg HZ.out]; exact ⟨rfl, rfl, rfl⟩, HK0.out.trans K1 (fun _ _ h => h)⟩
end Go.Proofs.Ytelgknecainlfaa
