/- WiMost: texts for the statements of this seat: contracts of functions, walks, plain laws. Conditions: none. -/
import Derived.Laws.EntriesVeiled
import Derived.OneCell
import Derived.Deep.CutRange
import Derived.Test.YtelgknecainlfaaWiThin2
set_option linter.all false
/- Most: what it is; Few; the closure of the program's Most. -/
namespace Go.Proofs.Ytelgknecainlfaa
open Go.RowKit
open Wi (vld Srt chk longE)

/-- Launches i to j lie in a span. -/
def okp (l : List Int) (L : Int) (i j : Nat) : Prop := ∃ x y, l[i]? = some x ∧ l[j]? = some y ∧ i ≤ j ∧ y - x ≤ L
theorem okp.lt {l : List Int} {L : Int} {i j : Nat} (h : okp l L i j) : i ≤ j ∧ j < l.length := by
  obtain ⟨x, y, -, hy, h, -⟩ := h
  exact ⟨h, (List.getElem?_eq_some_iff.1 hy).1⟩
/-- n is the greatest number of elements from i to j, of those p allows. -/
def MaxOf (p : Nat → Nat → Prop) (n : Nat) : Prop := (∀ i j, p i j → j + 1 ≤ n + i) ∧ (n = 0 ∨ ∃ i j, p i j ∧ j + 1 = n + i)
theorem MaxOf.unique {p : Nat → Nat → Prop} {n m : Nat} (h : MaxOf p n) (k : MaxOf p m) : n = m := by
  have aux : ∀ {n m : Nat}, MaxOf p n → MaxOf p m → n ≤ m := by
    intro n m h k
    rcases h.2 with e | ⟨i, j, hp, e⟩
    · omega
    · have := k.1 i j hp; omega
  exact Nat.le_antisymm (aux h k) (aux k h)
theorem MaxOf.step {p q : Nat → Nat → Prop} {n r : Nat} (h : MaxOf p n) (h1 : ∀ i j, p i j → q i j) (h2 : ∀ i j, q i j → p i j ∨ j + 1 ≤ r + i) (h3 : ∃ i j, q i j ∧ j + 1 = r + i) : MaxOf q (max n r) := by
  refine ⟨fun i j hq => ?_, ?_⟩
  · rcases h2 i j hq with hp | hr
    · have := h.1 i j hp; omega
    · omega
  · by_cases hnr : n ≤ r
    · rw [Nat.max_eq_right hnr]; exact .inr h3
    · rw [Nat.max_eq_left (by omega)]
      rcases h.2 with e | ⟨i, j, hp, e⟩
      · omega
      · exact .inr ⟨i, j, h1 i j hp, e⟩
theorem MaxOf.congr {p q : Nat → Nat → Prop} {n : Nat} (h : MaxOf p n) (e : ∀ i j, p i j ↔ q i j) : MaxOf q n :=
  ⟨fun i j hq => h.1 i j ((e i j).2 hq), h.2.imp id fun ⟨i, j, hp, hn⟩ => ⟨i, j, (e i j).1 hp, hn⟩⟩
theorem MaxOf.none {p : Nat → Nat → Prop} (h : ∀ i j, ¬ p i j) : MaxOf p 0 := ⟨fun i j hp => absurd hp (h i j), .inl rfl⟩
noncomputable def mostE (l : List Int) (L : Int) : Int := or2 (chk l) (longE L)
theorem mostE_ok {l : List Int} {L : Int} (h : mostE l L = 0) : chk l = 0 ∧ longE L = 0 := by
  unfold mostE or2 at h
  split at h
  · rename_i q; exact absurd h q
  · rename_i q; exact ⟨Classical.not_not.1 q, h⟩
def MostPost (l : List Int) (L : Int) (w : World) (e : Ending) (w' : World) : Prop := ∃ n : Nat, e = .returned (.tuple #[.int .i64 n, .int .i64 (mostE l L)]) ∧ (if mostE l L = 0 then MaxOf (okp l L) n else n = 0) ∧ n ≤ 100000 ∧ Kept (fun _ => False) w w'

def fewB (n : Nat) : Bool := decide (n ≤ 120) || (decide (100000 < n) && decide (n < 100010))
theorem few_c {w : World} {v : Value} {l : List Int} (h : Ints w v l) (hl : l.length ≤ 9223372036854775807) : Calls Try.prog 13 #[v] w fun e w' => e = .returned (.bool (fewB l.length)) ∧ w = w' := by
  obtain ⟨a, cap, rfl⟩ := h.len
  generalize l.length = n at hl ⊢
  clear h
  by_cases h1 : n ≤ 120
  · have HE : Hid (fewB n = true) := Lib.hid (by simp [fewB, h1])
    have h1' : (n : Int) ≤ 120 := by omega
    go_enter Try.func13, Try.ntmps13
    go_wp2
    go_ret
    exact ⟨by rw [HE.out]; rfl, rfl⟩
  · have h1' : ¬ (n : Int) ≤ 120 := by omega
    by_cases h2 : 100000 < n
    · have h2' : (100000 : Int) < n := by omega
      by_cases h3 : n < 100010
      · have h3' : (n : Int) < 100010 := by omega
        have HE : Hid (fewB n = true) := Lib.hid (by simp [fewB, h2, h3])
        go_enter Try.func13, Try.ntmps13
        go_wp2
        go_ret
        exact ⟨by rw [HE.out]; rfl, rfl⟩
      · have h3' : ¬ (n : Int) < 100010 := by omega
        have HE : Hid (fewB n = false) := Lib.hid (by simp [fewB, h1, h3])
        go_enter Try.func13, Try.ntmps13
        go_wp2
        go_ret
        exact ⟨by rw [HE.out]; rfl, rfl⟩
    · have h2' : ¬ (100000 : Int) < n := by omega
      have HE : Hid (fewB n = false) := Lib.hid (by simp [fewB, h1, h2])
      go_enter Try.func13, Try.ntmps13
      go_wp2
      go_ret
      exact ⟨by rw [HE.out]; rfl, rfl⟩

set_option maxRecDepth 100000 in
set_option maxHeartbeats 4000000 in
theorem most41_c {w : World} {v : Value} {l : List Int} {n : Nat} (h : Ints w v l) (hn : n = l.length) (hn5 : n ≤ 100000) (hv : ∀ x ∈ l, 0 ≤ x ∧ x ≤ 253402300799) (L : Int) (hL : 0 ≤ L) (bT bF bL j f : Nat) (hj : j < n) (hf : f ≤ j)
    (cT : w.cell? ⟨bT, 0, none⟩ = some v) (hT : bT < w.heap.size) (hF : RowAt w bF [.int .i64 f]) (cL : w.cell? ⟨bL, 0, none⟩ = some (.int .i64 L)) (hLb : bL < w.heap.size) (h1 : bF ≠ bT) (h2 : bF ≠ bL) (h3 : v.ownBlock ≠ some bF) :
    Calls Try.prog 41 #[.int .i64 j, .pointer (some ⟨bT, 0, none⟩), .pointer (some ⟨bF, 0, none⟩), .pointer (some ⟨bL, 0, none⟩)] w fun e w' => ∃ g : Nat, f ≤ g ∧ g ≤ j ∧ e = .returned (.int .i64 ((j : Int) - g + 1)) ∧ (∀ i, f ≤ i → i < g → ¬ okp l L i j) ∧ okp l L g j ∧ RowAt w' bF [.int .i64 g] ∧ Kept (fun b => b = bF) w w' := by
  have HQ := Lib.hid h
  have HR := Lib.hid hF
  have HD := Lib.hid h3
  have HG := Lib.hid hv
  have HN := Lib.hid hn
  have HCT := Lib.hid cT
  have HCL := Lib.hid cL
  obtain ⟨aa, cap, rfl⟩ := h.len
  rw [← hn] at HQ HCT HD
  clear h hF h3 hv hn cT cL
  go_enter Try.func41, Try.ntmps41
  go_wp2
  go_loopw [] (fun wr => ∃ g : Nat, f ≤ g ∧ g ≤ j ∧ (∀ i, f ≤ i → i < g → ¬ okp l L i j) ∧ RowAt wr bF [.int .i64 g] ∧ Kept (fun b => b = bF) w wr) (fun wr => match wr.cell? ⟨bF, 0, none⟩ with | some (.int _ x) => (j - x).toNat | _ => 0)
  case atStart => exact ⟨f, Nat.le_refl _, hf, fun i a b => absurd a (by omega), HR.out, Kept.refl _ _⟩
  case round =>
    obtain ⟨g, hg1, hg2, hno, hr, K⟩ := hrel
    have HNO := Lib.hid hno
    have HR2 := Lib.hid hr
    have HK := Lib.hid K
    clear hno hr K
    have cT := (HK.out.cell (a := ⟨bT, 0, none⟩) hT (fun q => h1 q.symm)).trans HCT.out
    have cL := (HK.out.cell (a := ⟨bL, 0, none⟩) hLb (fun q => h2 q.symm)).trans HCL.out
    have cF := HR2.out.get (j := 0) rfl
    have hjl : j < l.length := by have := HN.out; omega
    have hgl : g < l.length := by omega
    have HQ2 := Lib.hid (HQ.out.kept HK.out (fun b hb _ e => HD.out (by rw [hb, e])))
    obtain ⟨b0, off, cap', hv, hb0, hcell⟩ := HQ2.out.pos (by omega)
    rw [← HN.out] at hv
    injection hv with e1 e2 e3
    subst e1 e3
    have c1 := IntsK.at hcell hjl
    have c0 := IntsK.at hcell hgl
    have hx := HG.out l[g] (List.getElem_mem hgl)
    have hy := HG.out l[j] (List.getElem_mem hjl)
    have HX := Lib.hid (get_of hgl)
    have HY := Lib.hid (get_of hjl)
    clear hcell
    generalize l[g] = x at c0 hx HX
    generalize l[j] = y at c1 hy HY
    have hw : IntKind.i64.wrap (y - x) = y - x := IntWalk.i64_in _ (by omega)
    have hgn : g < n := by omega
    have HOK : Hid (okp l L g j ↔ y - x ≤ L) := Lib.hid ⟨fun ⟨x', y', hx', hy', _, h⟩ => by
      rw [HX.out] at hx'; rw [HY.out] at hy'
      injection hx' with hx'; injection hy' with hy'
      subst hx' hy'; exact h, fun h => ⟨x, y, HX.out, HY.out, hg2, h⟩⟩
    by_cases hE : L < y - x
    · have hgj : g < j := by
        rcases Nat.lt_or_ge g j with q | q
        · exact q
        · exfalso
          obtain rfl : g = j := by omega
          have := HX.out; rw [HY.out] at this; injection this with this
          omega
      have HNO2 : Hid (∀ i, f ≤ i → i < g + 1 → ¬ okp l L i j) := Lib.hid fun i a b => by
        by_cases e : i = g
        · subst e; exact fun q => by have := HOK.out.1 q; omega
        · exact HNO.out i a (by omega)
      have HR3 : Hid (∀ k, RowAt ((wr.drewN k).setCell ⟨bF, 0, none⟩ (.int .i64 ((g : Int) + 1))) bF [.int .i64 ((g + 1 : Nat) : Int)] ∧ Kept (fun b => b = bF) w ((wr.drewN k).setCell ⟨bF, 0, none⟩ (.int .i64 ((g : Int) + 1)))) := Lib.hid fun k => ⟨by rw [Int.natCast_add]; exact (HR2.out.same ((Kept.refl _ _).drewN k)).set (j := 0) (by simp) _, (HK.out.drewN k).setCell _ _ (fun _ => rfl)⟩
      have hfz := HR2.out.fz 0
      have cM := HR2.out.get (j := 0) rfl
      go_wp2
      go_quiet (fail)
      go_wp2
      go_roundw
      case rel => exact ⟨g + 1, by omega, by omega, HNO2.out, (HR3.out _).1, (HR3.out _).2⟩
      case measure => have e := (HR3.out nq).1.get (j := 0) rfl; rw [e, cM]; simp only []; omega
    · have HOK2 : Hid (okp l L g j) := Lib.hid (HOK.out.2 (by omega))
      have hw2 : IntKind.i64.wrap ((j : Int) - (g : Int)) = (j : Int) - (g : Int) := IntWalk.i64_in _ (by omega)
      go_wp2
      go_quiet (fail)
      go_wp2
      go_ret
      exact ⟨g, hg1, hg2, rfl, HNO.out, HOK2.out, HR2.out.same ((Kept.refl _ _).drewN _), HK.out.drewN _⟩
end Go.Proofs.Ytelgknecainlfaa
