/- WhPlace: texts for the statements of this seat: contracts of functions, walks, plain laws. Conditions: none. -/
import Derived.Test.YtjlcchjcppkbjaaDoorWhPlL0
import Derived.Test.YtjlcchjcppkbjaaDoorWhPlL1
import Derived.Test.YtjlcchjcppkbjaaDoorWhPlL2
import Derived.Test.YtjlcchjcppkbjaaDoorWhPlL3
import Derived.Test.YtjlcchjcppkbjaaDoorWhPlL4
set_option linter.all false
/- place, all levels; a list is taken out and its timers are put where they belong. -/
namespace Go.Proofs.YtjlcchjcppkbjaaDoor
open Go.RowKit
variable {w W w' : World} {wb base : Nat} {V : Nat → Value} {Q : Nat → List Pt} {kd : Nat → Nat} {fr : Int} {i : Nat} {t : Pt}
theorem place_c (C : Core w wb base V Q kd fr) (t : Pt) {lv sl : Int} (T : TmAt w t lv sl) (hk : kd t.b = 400) (hnew : ∀ j, j < 257 → ∀ u ∈ Q j, u.b ≠ t.b) (hf0 : 0 ≤ fr) (hf1 : fr ≤ 4611686018427387905) (hx0 : 0 ≤ t.x.at_) (hx1 : t.x.at_ ≤ 4611686018427387904)
    (hlen : ∀ i, i < 257 → (Q i).length ≤ 1000000) :
    Calls Tryd.prog 41 #[.pointer (some ⟨wb, 0, none⟩), .pointer (some ⟨t.b, 0, none⟩)] w fun e w' => e = .returned (.tuple #[]) ∧ PlacePost w wb base V Q kd fr (pos fr t.x.at_) t w' := by
  have hs := fun L => slt_lt L t.x.at_
  rcases lvl_cases fr t.x.at_ with a | a | a | a | a
  · rw [pos_of_lvl a.1 (by omega)]
    exact place_0 C t lv sl T hk hnew hf0 hf1 hx0 hx1 (hlen _ (by have := hs 0; omega)) a.2
  · rw [pos_of_lvl a.1 (by omega)]
    exact place_1 C t lv sl T hk hnew hf0 hf1 hx0 hx1 (hlen _ (by have := hs 1; omega)) a.2.1 a.2.2
  · rw [pos_of_lvl a.1 (by omega)]
    exact place_2 C t lv sl T hk hnew hf0 hf1 hx0 hx1 (hlen _ (by have := hs 2; omega)) (by omega) a.2.1 a.2.2
  · rw [pos_of_lvl a.1 (by omega)]
    exact place_3 C t lv sl T hk hnew hf0 hf1 hx0 hx1 (hlen _ (by have := hs 3; omega)) (by omega) (by omega) a.2.1 a.2.2
  · rw [pos_far a.1]
    exact place_4 C t lv sl T hk hnew hf0 hf1 hx0 hx1 (hlen _ (by omega)) (by omega) (by omega) (by omega) a.2

/-- A nodup list inside another is no longer. -/
theorem len_sub {α : Type} [DecidableEq α] : ∀ {l m : List α}, l.Nodup → (∀ x ∈ l, x ∈ m) → l.length ≤ m.length
  | [], _, _, _ => Nat.zero_le _
  | x :: l, m, hn, hs => by
    rw [List.nodup_cons] at hn
    have hx := hs x (by simp)
    have h1 : ∀ y ∈ l, y ∈ m.erase x := fun y hy => (List.mem_erase_of_ne (fun e => hn.1 (by rw [← e]; exact hy))).2 (hs y (by simp [hy]))
    have h2 := len_sub hn.2 h1
    have h3 := List.length_erase_of_mem hx
    have h4 : 0 < m.length := List.length_pos_of_mem hx
    simp only [List.length_cons]
    omega

/-- Where the timers are while the lists are laid anew for the second fr: hand has been taken out; the lists of rem are still to be taken. -/
structure Mid (last fr : Int) (ts : List Pt) (rem : Nat → Prop) (hand : List Pt) (Q : Nat → List Pt) : Prop where
  inj : ∀ t ∈ ts, ∀ u ∈ ts, t.b = u.b → t = u
  sub : ∀ i, i < 257 → ∀ t ∈ Q i, t ∈ ts ∧ t ∉ hand ∧ (i = pos fr t.x.at_ ∨ (rem i ∧ i = pos last t.x.at_))
  all : ∀ t ∈ ts, t ∈ hand ∨ ∃ i, i < 257 ∧ t ∈ Q i
  hnd : ∀ t ∈ hand, t ∈ ts
  nd : (hand.map Pt.b).Nodup
  rng : ∀ t ∈ ts, fr ≤ t.x.at_ ∧ t.x.at_ ≤ 4611686018427387904
theorem Mid.weak {last fr : Int} {ts hand : List Pt} {rem rem' : Nat → Prop} {Q : Nat → List Pt} (h : Mid last fr ts rem hand Q) (hr : ∀ i, i < 257 → rem i → (∀ t ∈ Q i, i = pos fr t.x.at_) ∨ rem' i) : Mid last fr ts rem' hand Q where
  inj := h.inj
  sub := fun i hi t ht => by
    obtain ⟨h1, h2, h3⟩ := h.sub i hi t ht
    refine ⟨h1, h2, ?_⟩
    rcases h3 with h3 | ⟨h3, h4⟩
    · exact .inl h3
    · rcases hr i hi h3 with q | q
      · exact .inl (q t ht)
      · exact .inr ⟨q, h4⟩
  all := h.all
  hnd := h.hnd
  nd := h.nd
  rng := h.rng

/-- The loop over what was taken out: the first k of l are placed. kd0, w0: as it was when the wheel's call began. -/
structure Fill (w0 : World) (kd0 : Nat → Nat) (wb base : Nat) (last fr : Int) (ts : List Pt) (rem : Nat → Prop) (vl : Value) (l : List Pt) (k : Nat) (W : World) : Prop where
  ex : ∃ V Q kd, Core W wb base V Q kd fr ∧ Mid last fr ts rem (l.drop k) Q ∧ (∀ b, b < w0.heap.size → kd b = kd0 b) ∧ (∀ i, i < 257 → ∀ b, (V i).ownBlock = some b → vl.ownBlock ≠ some b) ∧
    (∀ t ∈ l.drop k, kd t.b = 400 ∧ ∃ lv sl, TmAt W t lv sl) ∧ ∀ b, vl.ownBlock = some b → kd b ≠ 1 ∧ kd b ≠ 400
  row : W.ownsRow base 90 1 vl l.length (l.map ptr)
  low : ∀ o, o < 5 → o ≠ 1 → W.cell? ⟨wb, o, none⟩ = w0.cell? ⟨wb, o, none⟩
  K : Kept (fun b => kd0 b = 1 ∨ 5 ≤ kd0 b) w0 W
theorem Fill.step {w0 : World} {kd0 : Nat → Nat} {last fr : Int} {ts : List Pt} {rem : Nat → Prop} {vl : Value} {l : List Pt} {k : Nat} (h : Fill w0 kd0 wb base last fr ts rem vl l k W) (hf0 : 0 ≤ fr) (hf1 : fr ≤ 4611686018427387905) (hts : ts.length ≤ 1000000) {t : Pt} (ht : l[k]? = some t) :
    Calls Tryd.prog 41 #[.pointer (some ⟨wb, 0, none⟩), .pointer (some ⟨t.b, 0, none⟩)] W fun e w' => e = .returned (.tuple #[]) ∧ Fill w0 kd0 wb base last fr ts rem vl l (k + 1) w' := by
  obtain ⟨⟨V, Q, kd, C, M, hkd, hdis, hhand, hvl⟩, row, low, K⟩ := h
  have hdrop : l.drop k = t :: l.drop (k + 1) := by
    obtain ⟨hl, e⟩ := List.getElem?_eq_some_iff.1 ht
    rw [List.drop_eq_getElem_cons hl, e]
  have hth : t ∈ l.drop k := by rw [hdrop]; simp
  obtain ⟨hk4, lv, sl, T⟩ := hhand t hth
  have htt := M.hnd t hth
  have hrng := M.rng t htt
  have hnew : ∀ j, j < 257 → ∀ u ∈ Q j, u.b ≠ t.b := fun j hj u hu e => by
    obtain ⟨h1, h2, -⟩ := M.sub j hj u hu
    exact h2 (by rw [M.inj u h1 t htt e]; exact hth)
  have hlen : ∀ i, i < 257 → (Q i).length ≤ 1000000 := fun i hi => by
    have h1 : (Q i).Nodup := List.Pairwise.of_map Pt.b (fun a b h e => h (by rw [e])) (C.R.nd i hi)
    exact Nat.le_trans (len_sub h1 (fun x hx => (M.sub i hi x hx).1)) hts
  refine (place_c C t T hk4 hnew hf0 hf1 (by omega) hrng.2 hlen).mono ?_
  rintro e w' ⟨rfl, ⟨v', kd', C', h1, h2⟩, low', K'⟩
  refine ⟨rfl, ?_⟩
  have hnd := M.nd
  rw [hdrop, List.map_cons, List.nodup_cons] at hnd
  have hpl := pos_lt fr t.x.at_
  have hsz : w0.heap.size ≤ W.heap.size := K.size
  have hvb : ∀ b, vl.ownBlock = some b → b < W.heap.size := fun b e => (ownsRow_block row e).2
  refine ⟨⟨_, _, kd', C', ?_, fun b hb => (h1 b (by omega)).trans (hkd b hb), ?_, ?_, ?_⟩, ?_, fun o ho ho1 => (low' o ho).trans (low o ho ho1), ?_⟩
  · exact {
      inj := M.inj
      sub := fun i hi u hu => by
        by_cases e : i = pos fr t.x.at_
        · subst e
          rw [upd_at] at hu
          rcases List.mem_append.1 hu with q | q
          · obtain ⟨a1, a2, a3⟩ := M.sub _ hi u q
            exact ⟨a1, fun hm => a2 (by rw [hdrop]; simp [hm]), a3⟩
          · simp at q
            subst q
            exact ⟨htt, fun hm => hnd.1 (List.mem_map.2 ⟨u, hm, rfl⟩), .inl rfl⟩
        · rw [upd_ne _ _ e] at hu
          obtain ⟨a1, a2, a3⟩ := M.sub i hi u hu
          exact ⟨a1, fun hm => a2 (by rw [hdrop]; simp [hm]), a3⟩
      all := fun u hu => by
        rcases M.all u hu with q | ⟨i, hi, q⟩
        · rw [hdrop] at q
          rcases List.mem_cons.1 q with q | q
          · subst q
            exact .inr ⟨_, hpl, by rw [upd_at]; simp⟩
          · exact .inl q
        · refine .inr ⟨i, hi, ?_⟩
          by_cases e : i = pos fr t.x.at_
          · subst e; rw [upd_at]; simp [q]
          · rw [upd_ne _ _ e]; exact q
      hnd := fun u hu => M.hnd u (by rw [hdrop]; simp [hu])
      nd := hnd.2
      rng := M.rng }
  · intro i hi b hb e
    by_cases e2 : i = pos fr t.x.at_
    · subst e2
      rw [upd_at] at hb
      rcases h2 b hb with q | q
      · exact hdis _ hpl b q e
      · have := hvb b e; omega
    · rw [upd_ne _ _ e2] at hb; exact hdis i hi b hb e
  · intro u hu
    obtain ⟨a1, lv', sl', T'⟩ := hhand u (by rw [hdrop]; simp [hu])
    have hne : u.b ≠ t.b := fun e => hnd.1 (List.mem_map.2 ⟨u, hu, e⟩)
    refine ⟨by rw [h1 _ T'.lt]; exact a1, lv', sl', T'.kept K' (fun q => ?_)⟩
    rcases q with q | q | q
    · have := C.R.kw; rw [q] at a1; omega
    · exact hne q
    · have := C.R.kV _ hpl _ q; omega
  · intro b hb
    rw [h1 b (hvb b hb)]; exact hvl b hb
  · refine ownsRow_kept row K' (fun b _ hb q => ?_)
    rcases q with q | q | q
    · have := C.R.kw; have := hvl b hb; subst q; omega
    · have := hvl b hb; subst q; omega
    · exact hdis _ hpl b q hb
  · refine K.trans K' (fun b hb q => ?_)
    rw [← hkd b hb]
    rcases q with q | q | q
    · subst q; have := C.R.kw; omega
    · subst q; omega
    · have := C.R.kV _ hpl b q; omega
end Go.Proofs.YtjlcchjcppkbjaaDoor
