/- WhA: texts for the statements of this seat: contracts of functions, walks, plain laws. Conditions: none. -/
import Derived.Test.YtjlcchjcppkbjaaDoorGeAll
set_option linter.all false
/- The abstract arena: which handles name something, before and behind Put and Free. Plain. -/
namespace Go.Proofs.YtjlcchjcppkbjaaDoor

/-- The arena's own order, both ways. -/
structure AInv (a : AA) : Prop extends AOk a where
  conv : ∀ (k : Nat) (s : U), a.sl[k]? = some s → s.taken = false → 1 ≤ s.use → s.use ≠ 2147483648 → k ∈ a.fl

theorem AInv.empty {n : Nat} (h : n ≤ 4096) : AInv (AA.empty n) where
  len := by simpa [AA.empty] using h
  use := fun k s hs => by
    simp only [AA.empty, List.getElem?_replicate] at hs
    split at hs
    · obtain rfl := Option.some.inj hs; simp
    · simp at hs
  tk := fun k s hs ht => by
    simp only [AA.empty, List.getElem?_replicate] at hs
    split at hs
    · obtain rfl := Option.some.inj hs; simp at ht
    · simp at hs
  fl := fun k hk => by simp [AA.empty] at hk
  nodup := by simp [AA.empty]
  conv := fun k s hs ht hu => by
    simp only [AA.empty, List.getElem?_replicate] at hs
    split at hs
    · obtain rfl := Option.some.inj hs; simp at hu
    · simp at hs

/-- What Put picks. -/
theorem pick_some {a : AA} (ok : AOk a) {k : Nat} {s : U} {r : List Nat} (h : a.pick = some (k, s, r)) :
    a.sl[k]? = some s ∧ s.taken = false ∧ s.use < 2147483648 ∧ 0 ≤ s.use ∧ r.Nodup ∧ (∀ j, j ∈ r ↔ j ∈ a.fl ∧ j ≠ k) := by
  unfold AA.pick at h
  split at h
  · rename_i k' r' hf
    obtain ⟨t, ht, e⟩ := Option.map_eq_some_iff.1 h
    injection e with e1 e2
    injection e2 with e2 e3
    subst e1 e2 e3
    obtain ⟨s', hs', h1, h2, h3⟩ := ok.fl k' (by rw [hf]; simp)
    rw [ht] at hs'
    obtain rfl := Option.some.inj hs'
    have h4 := ok.use _ _ ht
    have nd := ok.nodup
    rw [hf, List.nodup_cons] at nd
    refine ⟨ht, h1, by omega, by omega, nd.2, fun j => ?_⟩
    rw [hf, List.mem_cons]
    constructor
    · intro q; exact ⟨.inr q, fun e => nd.1 (e ▸ q)⟩
    · rintro ⟨q | q, n⟩
      · exact absurd q n
      · exact q
  · rename_i hf
    obtain ⟨t, ht, e⟩ := Option.map_eq_some_iff.1 h
    injection e with e1 e2
    injection e2 with e2 e3
    subst e1 e2 e3
    obtain ⟨hl, hget⟩ := List.getElem?_eq_some_iff.1 ht
    have hu : (t.use == 0) = true := by rw [← hget]; exact List.findIdx_getElem (p := fun s : U => s.use == 0)
    have hu0 : t.use = 0 := by simpa using hu
    refine ⟨ht, ?_, by omega, by omega, List.nodup_nil, fun j => by rw [hf]; simp⟩
    cases hb : t.taken with
    | false => rfl
    | true => have := ok.tk _ _ ht hb; omega

theorem pick_none {a : AA} (ok : AOk a) (h : a.pick = none) : a.fl = [] ∧ ∀ (k : Nat) (s : U), a.sl[k]? = some s → s.use ≠ 0 := by
  unfold AA.pick at h
  split at h
  · rename_i k' r' hf
    obtain ⟨s', hs', -⟩ := ok.fl k' (by rw [hf]; simp)
    rw [hs'] at h
    simp at h
  · rename_i hf
    refine ⟨hf, fun k s hs hu => ?_⟩
    simp at h
    have h1 := (List.getElem?_eq_some_iff.1 hs)
    exact absurd hu (h s (List.mem_of_getElem? hs))

/-- What holds behind a Put that went well. -/
structure PutOk (a a' : AA) (h : Int) : Prop where
  inv : AInv a'
  new : a.find h = none
  found : (a'.find h).isSome = true
  others : ∀ h', h' ≠ h → (a'.find h').isSome = (a.find h').isSome
  len : a'.len = a.len + 1
  size : a'.sl.length = a.sl.length
  use : ∀ n : Int, (∀ s ∈ a.sl, s.use ≤ n) → ∀ s ∈ a'.sl, s.use ≤ n + 1
  hlo : 4096 ≤ h
  hhi : h ≤ 8796093026303

theorem find_isSome {a : AA} (ok : AOk a) (h : Int) : (a.find h).isSome = true ↔ ∃ (k : Nat) (s : U), a.sl[k]? = some s ∧ s.taken = true ∧ 4096 * s.use + k = h := by
  constructor
  · intro q
    obtain ⟨⟨k, s⟩, hf⟩ := Option.isSome_iff_exists.1 q
    exact ⟨k, s, find_hit hf⟩
  · rintro ⟨k, s, h1, h2, h3⟩
    rw [hit_find ok h1 h2 h3]; rfl

theorem put_spec {a a' : AA} (I : AInv a) {v h e : Int} (hp : a.put v = (a', h, e)) :
    (e = 0 ∧ PutOk a a' h) ∨ (e = 4 ∧ a' = a ∧ h = 0 ∧ ∀ (k : Nat) (s : U), a.sl[k]? = some s → s.taken = true ∨ s.use = 2147483648) := by
  unfold AA.put at hp
  split at hp
  · rename_i k s r hk
    left
    injection hp with e1 e2
    injection e2 with e2 e3
    subst e1 e2 e3
    obtain ⟨hs, ht, hu, hu0, hr, hm⟩ := pick_some I.toAOk hk
    have hkl := (List.getElem?_eq_some_iff.1 hs).1
    have hl := I.len
    have get : ∀ j, (a.fill k s v r).sl[j]? = if k = j then some { use := s.use + 1, taken := true, v := v } else a.sl[j]? := fun j => by
      simp only [AA.fill, List.getElem?_set]
      split
      · first | rw [if_pos hkl] | rfl | simp [hkl]
      · rfl
    have ok' : AOk (a.fill k s v r) := {
      len := by simpa [AA.fill] using hl
      use := fun j t hj => by
        rw [get] at hj
        split at hj
        · obtain rfl := Option.some.inj hj; simp only; omega
        · exact I.use j t hj
      tk := fun j t hj ht => by
        rw [get] at hj
        split at hj
        · obtain rfl := Option.some.inj hj; simp only; omega
        · exact I.tk j t hj ht
      fl := fun j hj => by
        obtain ⟨h1, h2⟩ := (hm j).1 hj
        obtain ⟨t, h3, h4⟩ := I.fl j h1
        exact ⟨t, by rw [get, if_neg (Ne.symm h2)]; exact h3, h4⟩
      nodup := hr }
    refine ⟨rfl, { toAOk := ok', conv := ?_ }, ?_, ?_, ?_, ?_, ?_, ?_, by omega, by omega⟩
    · intro j t hj h1 h2 h3
      rw [get] at hj
      split at hj
      · obtain rfl := Option.some.inj hj; simp at h1
      · rename_i hn
        exact (hm j).2 ⟨I.conv j t hj h1 h2 h3, fun e => hn e.symm⟩
    · cases hf : a.find (4096 * (s.use + 1) + (k : Int)) with
      | none => rfl
      | some p =>
        obtain ⟨j, t⟩ := p
        obtain ⟨h1, h2, h3⟩ := find_hit hf
        have hjl := (List.getElem?_eq_some_iff.1 h1).1
        have hjk : j = k := by omega
        subst hjk
        rw [hs] at h1
        obtain rfl := Option.some.inj h1
        rw [ht] at h2; simp at h2
    · refine (find_isSome ok' _).2 ⟨k, _, by rw [get, if_pos rfl], rfl, rfl⟩
    · intro h' hne
      rw [Bool.eq_iff_iff, find_isSome ok', find_isSome I.toAOk]
      constructor
      · rintro ⟨j, t, h1, h2, h3⟩
        rw [get] at h1
        split at h1
        · rename_i hjk
          subst hjk
          obtain rfl := Option.some.inj h1
          exact absurd h3.symm hne
        · exact ⟨j, t, h1, h2, h3⟩
      · rintro ⟨j, t, h1, h2, h3⟩
        refine ⟨j, t, ?_, h2, h3⟩
        rw [get]
        split
        · rename_i hjk
          subst hjk
          rw [hs] at h1
          obtain rfl := Option.some.inj h1
          rw [ht] at h2; simp at h2
        · exact h1
    · have := (List.getElem?_eq_some_iff.1 hs)
      simp only [AA.len, AA.fill]
      rw [List.countP_set hkl, this.2, ht]
      simp
    · simp [AA.fill]
    · intro n hn t hmem
      simp only [AA.fill] at hmem
      rcases List.mem_or_eq_of_mem_set hmem with q | q
      · have := hn t q; omega
      · have := hn s (List.mem_of_getElem? hs)
        subst q; simp only; omega
  · rename_i hk
    right
    injection hp with e1 e2
    injection e2 with e2 e3
    subst e1 e2 e3
    obtain ⟨h1, h2⟩ := pick_none I.toAOk hk
    refine ⟨rfl, rfl, rfl, fun k s hs => ?_⟩
    cases ht : s.taken with
    | true => exact .inl rfl
    | false =>
      right
      by_cases hu : s.use = 2147483648
      · exact hu
      · have h3 := h2 k s hs
        have h4 := I.use k s hs
        have := I.conv k s hs ht (by omega) hu
        rw [h1] at this; simp at this

/-- What holds behind a Free of a handle that names something. -/
structure FreeOk (a a' : AA) (h : Int) : Prop where
  inv : AInv a'
  gone : a'.find h = none
  others : ∀ h', h' ≠ h → (a'.find h').isSome = (a.find h').isSome
  len : a'.len + 1 = a.len
  size : a'.sl.length = a.sl.length
  use : ∀ n : Int, (∀ s ∈ a.sl, s.use ≤ n) → ∀ s ∈ a'.sl, s.use ≤ n

theorem free_spec {a a' : AA} (I : AInv a) {h e : Int} (hf : (a.find h).isSome = true) (hp : a.free h = (a', e)) : e = 0 ∧ FreeOk a a' h := by
  obtain ⟨⟨k, s⟩, hf⟩ := Option.isSome_iff_exists.1 hf
  unfold AA.free at hp
  rw [hf] at hp
  simp only [Prod.mk.injEq] at hp
  obtain ⟨rfl, rfl⟩ := hp
  obtain ⟨hs, ht, hh⟩ := find_hit hf
  have hkl := (List.getElem?_eq_some_iff.1 hs).1
  have hu := I.use k s hs
  have hu1 := I.tk k s hs ht
  have hl := I.len
  have hkn : k ∉ a.fl := fun hm => by
    obtain ⟨t, h1, h2, -⟩ := I.fl k hm
    rw [hs] at h1
    obtain rfl := Option.some.inj h1
    rw [ht] at h2; simp at h2
  have get : ∀ j, (a.sl.set k { s with taken := false })[j]? = if k = j then some { s with taken := false } else a.sl[j]? := fun j => by
    rw [List.getElem?_set]
    split
    · first | rw [if_pos hkl] | simp [hkl]
    · rfl
  have ok' : AOk { sl := a.sl.set k { s with taken := false }, fl := if s.use = 2147483648 then a.fl else k :: a.fl } := {
    len := by simpa using hl
    use := fun j t hj => by
      simp only [get] at hj
      split at hj
      · obtain rfl := Option.some.inj hj; exact hu
      · exact I.use j t hj
    tk := fun j t hj ht => by
      simp only [get] at hj
      split at hj
      · obtain rfl := Option.some.inj hj; simp at ht
      · exact I.tk j t hj ht
    fl := fun j hj => by
      have hj' : j ∈ a.fl ∨ (s.use ≠ 2147483648 ∧ j = k) := by
        simp only at hj
        split at hj
        · exact .inl hj
        · rename_i hne
          rcases List.mem_cons.1 hj with q | q
          · exact .inr ⟨hne, q⟩
          · exact .inl q
      rcases hj' with q | ⟨hne, rfl⟩
      · obtain ⟨t, h3, h4⟩ := I.fl j q
        exact ⟨t, by simp only [get]; rw [if_neg (fun (e : k = j) => hkn (by rw [e]; exact q))]; exact h3, h4⟩
      · exact ⟨{ s with taken := false }, by rw [get, if_pos rfl], rfl, hu1, hne⟩
    nodup := by
      simp only
      split
      · exact I.nodup
      · exact List.nodup_cons.2 ⟨hkn, I.nodup⟩ }
  refine ⟨rfl, { toAOk := ok', conv := ?_ }, ?_, ?_, ?_, ?_, ?_⟩
  · intro j t hj h1 h2 h3
    simp only [get] at hj
    split at hj
    · rename_i e
      subst e
      obtain rfl := Option.some.inj hj
      simp only at h3 ⊢
      rw [if_neg h3]; simp
    · have := I.conv j t hj h1 h2 h3
      simp only
      split
      · exact this
      · exact List.mem_cons_of_mem _ this
  · have q : ¬ (AA.find { sl := a.sl.set k { s with taken := false }, fl := if s.use = 2147483648 then a.fl else k :: a.fl } h).isSome = true := fun q => by
      obtain ⟨j, t, h1, h2, h3⟩ := (find_isSome ok' h).1 q
      simp only [get] at h1
      split at h1
      · obtain rfl := Option.some.inj h1; simp at h2
      · rename_i hne
        have hjl := (List.getElem?_eq_some_iff.1 h1).1
        omega
    simpa using q
  · intro h' hne
    rw [Bool.eq_iff_iff, find_isSome ok', find_isSome I.toAOk]
    constructor
    · rintro ⟨j, t, h1, h2, h3⟩
      simp only [get] at h1
      split at h1
      · obtain rfl := Option.some.inj h1; simp at h2
      · exact ⟨j, t, h1, h2, h3⟩
    · rintro ⟨j, t, h1, h2, h3⟩
      refine ⟨j, t, ?_, h2, h3⟩
      simp only [get]
      split
      · rename_i hjk
        subst hjk
        rw [hs] at h1
        obtain rfl := Option.some.inj h1
        exact absurd (h3.symm.trans hh) hne
      · exact h1
  · have h1 := (List.getElem?_eq_some_iff.1 hs)
    simp only [AA.len]
    rw [List.countP_set hkl, h1.2, ht]
    have : 0 < a.sl.countP (·.taken) := List.countP_pos_iff.2 ⟨s, List.mem_of_getElem? hs, ht⟩
    simp
    omega
  · simp
  · intro n hn t hmem
    simp only at hmem
    rcases List.mem_or_eq_of_mem_set hmem with q | q
    · exact hn t q
    · have := hn s (List.mem_of_getElem? hs)
      subst q; exact this
theorem free_miss {a : AA} {h : Int} (hf : a.find h = none) : a.free h = (a, 5) := by unfold AA.free; rw [hf]
end Go.Proofs.YtjlcchjcppkbjaaDoor
/- Where a timer stands in the wheel: plain arithmetic. -/
namespace Go.Proofs.YtjlcchjcppkbjaaDoor

/-- 64 to the power of a level. -/
def pw : Nat → Int
  | 0 => 1
  | 1 => 64
  | 2 => 4096
  | 3 => 262144
  | _ => 16777216
/-- The level of a time x, seen from fr; 4: far. -/
def lvl (fr x : Int) : Nat :=
  if x / 64 = fr / 64 then 0 else if x / 4096 = fr / 4096 then 1 else if x / 262144 = fr / 262144 then 2 else if x / 16777216 = fr / 16777216 then 3 else 4
/-- The slot of a time in a level. -/
def slt (L : Nat) (x : Int) : Nat := ((x / pw L) % 64).toNat
/-- The place: 64 in each level, and 256 for what is in none. -/
def plc (L s : Nat) : Nat := if L = 4 then 256 else 64 * L + s
def pos (fr x : Int) : Nat := plc (lvl fr x) (slt (lvl fr x) x)

theorem lvl_le (fr x : Int) : lvl fr x ≤ 4 := by
  unfold lvl
  split
  · omega
  · split
    · omega
    · split
      · omega
      · split <;> omega
theorem slt_lt (L : Nat) (x : Int) : slt L x < 64 := by unfold slt; omega
theorem slt_cast (L : Nat) (x : Int) : (slt L x : Int) = (x / pw L) % 64 := by unfold slt; omega
theorem plc_lt {L s : Nat} (hL : L ≤ 4) (hs : s < 64) : plc L s < 257 := by unfold plc; split <;> omega
theorem pos_lt (fr x : Int) : pos fr x < 257 := plc_lt (lvl_le fr x) (slt_lt _ x)
theorem plc_inj {L s L' s' : Nat} (hL : L < 4) (hs : s < 64) (hL' : L' ≤ 4) (hs' : s' < 64) (h : plc L s = plc L' s') : L = L' ∧ s = s' := by
  unfold plc at h
  split at h <;> split at h <;> omega
theorem pos_of_lvl {fr x : Int} {L : Nat} (h : lvl fr x = L) (hL : L < 4) : pos fr x = 64 * L + slt L x := by
  unfold pos plc; rw [h, if_neg (by omega)]
theorem pos_far {fr x : Int} (h : lvl fr x = 4) : pos fr x = 256 := by unfold pos plc; rw [h, if_pos rfl]
theorem lvl_of_pos {fr x : Int} {L s : Nat} (hL : L < 4) (hs : s < 64) (h : pos fr x = 64 * L + s) : lvl fr x = L ∧ slt L x = s := by
  have h1 := lvl_le fr x
  have h2 := slt_lt (lvl fr x) x
  unfold pos at h
  have e : plc L s = 64 * L + s := by unfold plc; rw [if_neg (by omega)]
  rw [← e] at h
  obtain ⟨e1, e2⟩ := plc_inj hL hs h1 h2 h.symm
  rw [← e1] at e2
  exact ⟨e1.symm, e2.symm⟩
theorem lvl_of_far {fr x : Int} (h : pos fr x = 256) : lvl fr x = 4 := by
  have h1 := lvl_le fr x
  have h2 := slt_lt (lvl fr x) x
  unfold pos plc at h
  split at h <;> omega

/-- The next second has moved on: a timer stands right, or in a place that is emptied. -/
theorem pos_moves {last at_ x : Int} (h0 : 0 ≤ last) (h1 : last ≤ at_) (h2 : at_ ≤ x) :
    pos last x = pos at_ x ∨ (pos last x = 256 ∧ last / 16777216 ≠ at_ / 16777216) ∨ pos last x = 64 * 3 + slt 3 at_ ∨ pos last x = 64 * 2 + slt 2 at_ ∨ pos last x = 64 * 1 + slt 1 at_ := by
  by_cases a1 : x / 64 = last / 64
  · left
    have e1 : lvl last x = 0 := by unfold lvl; rw [if_pos a1]
    have e2 : lvl at_ x = 0 := by unfold lvl; rw [if_pos (by omega)]
    rw [pos_of_lvl e1 (by omega), pos_of_lvl e2 (by omega)]
  by_cases a2 : x / 4096 = last / 4096
  · have e1 : lvl last x = 1 := by unfold lvl; rw [if_neg a1, if_pos a2]
    by_cases b : x / 64 = at_ / 64
    · right; right; right; right
      rw [pos_of_lvl e1 (by omega)]
      unfold slt pw; simp only []; rw [b]
    · left
      have e2 : lvl at_ x = 1 := by unfold lvl; rw [if_neg b, if_pos (by omega)]
      rw [pos_of_lvl e1 (by omega), pos_of_lvl e2 (by omega)]
  by_cases a3 : x / 262144 = last / 262144
  · have e1 : lvl last x = 2 := by unfold lvl; rw [if_neg a1, if_neg a2, if_pos a3]
    by_cases b : x / 4096 = at_ / 4096
    · right; right; right; left
      rw [pos_of_lvl e1 (by omega)]
      unfold slt pw; simp only []; rw [b]
    · left
      have e2 : lvl at_ x = 2 := by unfold lvl; rw [if_neg (by omega), if_neg b, if_pos (by omega)]
      rw [pos_of_lvl e1 (by omega), pos_of_lvl e2 (by omega)]
  by_cases a4 : x / 16777216 = last / 16777216
  · have e1 : lvl last x = 3 := by unfold lvl; rw [if_neg a1, if_neg a2, if_neg a3, if_pos a4]
    by_cases b : x / 262144 = at_ / 262144
    · right; right; left
      rw [pos_of_lvl e1 (by omega)]
      unfold slt pw; simp only []; rw [b]
    · left
      have e2 : lvl at_ x = 3 := by unfold lvl; rw [if_neg (by omega), if_neg (by omega), if_neg b, if_pos (by omega)]
      rw [pos_of_lvl e1 (by omega), pos_of_lvl e2 (by omega)]
  · have e1 : lvl last x = 4 := by unfold lvl; rw [if_neg a1, if_neg a2, if_neg a3, if_neg a4]
    by_cases b : last / 16777216 = at_ / 16777216
    · left
      have e2 : lvl at_ x = 4 := by unfold lvl; rw [if_neg (by omega), if_neg (by omega), if_neg (by omega), if_neg (by omega)]
      rw [pos_far e1, pos_far e2]
    · right; left
      exact ⟨pos_far e1, b⟩

theorem lvl_cases (fr x : Int) :
    (lvl fr x = 0 ∧ x / 64 = fr / 64) ∨ (lvl fr x = 1 ∧ x / 64 ≠ fr / 64 ∧ x / 4096 = fr / 4096) ∨ (lvl fr x = 2 ∧ x / 4096 ≠ fr / 4096 ∧ x / 262144 = fr / 262144) ∨
    (lvl fr x = 3 ∧ x / 262144 ≠ fr / 262144 ∧ x / 16777216 = fr / 16777216) ∨ (lvl fr x = 4 ∧ x / 16777216 ≠ fr / 16777216) := by
  unfold lvl
  by_cases a1 : x / 64 = fr / 64
  · exact .inl ⟨if_pos a1, a1⟩
  rw [if_neg a1]
  by_cases a2 : x / 4096 = fr / 4096
  · exact .inr (.inl ⟨if_pos a2, a1, a2⟩)
  rw [if_neg a2]
  by_cases a3 : x / 262144 = fr / 262144
  · exact .inr (.inr (.inl ⟨if_pos a3, a2, a3⟩))
  rw [if_neg a3]
  by_cases a4 : x / 16777216 = fr / 16777216
  · exact .inr (.inr (.inr (.inl ⟨if_pos a4, a3, a4⟩)))
  · exact .inr (.inr (.inr (.inr ⟨if_neg a4, a4⟩)))

/-- What stands at a lower level is earlier. -/
theorem lvl_lt {fr x y : Int} (hx : fr ≤ x) (hy : fr ≤ y) (h : lvl fr x < lvl fr y) : x < y := by
  rcases lvl_cases fr x with a | a | a | a | a <;> rcases lvl_cases fr y with b | b | b | b | b <;> omega

/-- Where the slot s of level L begins, seen from fr. -/
def start (fr : Int) (L s : Nat) : Int := (fr / pw (L + 1) * 64 + s) * pw L

theorem start_in {fr x : Int} {L : Nat} (hL : L < 4) (h : lvl fr x = L) : start fr L (slt L x) ≤ x ∧ x < start fr L (slt L x) + pw L := by
  have hs := slt_cast L x
  rcases lvl_cases fr x with a | a | a | a | a
  all_goals
    first
      | omega
      | (obtain ⟨a1, a2⟩ := a
         rw [h] at a1; subst a1
         unfold start
         rw [hs]
         simp only [pw]
         omega)
theorem start_gt {fr x : Int} {L : Nat} (hL : L < 4) (h0 : 0 < L) (hx : fr ≤ x) (h : lvl fr x = L) : fr < start fr L (slt L x) ∧ slt L fr < slt L x := by
  have hs := slt_cast L x
  have hs2 := slt_cast L fr
  rcases lvl_cases fr x with a | a | a | a | a
  all_goals
    first
      | omega
      | (obtain ⟨a1, a2⟩ := a
         rw [h] at a1; subst a1
         unfold start
         rw [hs]
         simp only [pw] at hs hs2 ⊢
         omega)
theorem slt_ge {fr x : Int} {L : Nat} (hL : L < 4) (hx : fr ≤ x) (h : lvl fr x = L) : slt L fr ≤ slt L x := by
  rcases Nat.eq_zero_or_pos L with h0 | h0
  · subst h0
    have hs := slt_cast 0 x
    have hs2 := slt_cast 0 fr
    simp only [pw] at hs hs2
    rcases lvl_cases fr x with a | a | a | a | a <;> omega
  · exact Nat.le_of_lt (start_gt hL h0 hx h).2
theorem start_zero {fr x : Int} (h : lvl fr x = 0) : start fr 0 (slt 0 x) = x := by
  have := start_in (by omega) h
  have e : pw 0 = 1 := rfl
  omega
theorem slt_start {fr x y : Int} {L : Nat} (hL : L < 4) (hx : lvl fr x = L) (hy : lvl fr y = L) (h : slt L x < slt L y) : x < start fr L (slt L y) := by
  have h1 := start_in hL hx
  have h2 : start fr L (slt L x) + pw L ≤ start fr L (slt L y) := by
    unfold start
    have h3 : ((slt L x : Nat) : Int) + 1 ≤ (slt L y : Nat) := by omega
    match L, hL with
    | 0, _ => simp only [pw]; omega
    | 1, _ => simp only [pw]; omega
    | 2, _ => simp only [pw]; omega
    | 3, _ => simp only [pw]; omega
  omega
theorem far_start {fr x : Int} (h0 : 0 ≤ fr) (hx : fr ≤ x) (h : lvl fr x = 4) : fr < x / 16777216 * 16777216 ∧ x / 16777216 * 16777216 ≤ x := by
  rcases lvl_cases fr x with a | a | a | a | a <;> omega
end Go.Proofs.YtjlcchjcppkbjaaDoor
/- The abstract wheel: a time, an arena, and its timers in order; what each call does. Plain. -/
namespace Go.Proofs.YtjlcchjcppkbjaaDoor

abbrev NEVER : Int := 4611686018427387904
/-- A timer: when it fires, its id, its handle, which of all that were added it is. -/
structure Tm where
  at_ : Int
  id : Int
  h : Int
  seq : Int
deriving DecidableEq, Inhabited

/-- The order of timers. -/
def Tm.lt (x y : Tm) : Prop := x.at_ < y.at_ ∨ (x.at_ = y.at_ ∧ x.seq < y.seq)
theorem Tm.lt_irrefl (x : Tm) : ¬ x.lt x := by unfold Tm.lt; omega
theorem Tm.lt_asymm {x y : Tm} (h : x.lt y) : ¬ y.lt x := by unfold Tm.lt at *; omega
theorem Tm.lt_trans {x y z : Tm} (h : x.lt y) (k : y.lt z) : x.lt z := by unfold Tm.lt at *; omega

/-- Two lists in order with the same timers are equal. -/
theorem sorted_eq {l m : List Tm} (hl : l.Pairwise Tm.lt) (hm : m.Pairwise Tm.lt) (hp : l.Perm m) : l = m := by
  induction l generalizing m with
  | nil => exact (List.Perm.nil_eq hp)
  | cons x l ih =>
    cases m with
    | nil => exact absurd hp.symm (by simp)
    | cons y m =>
      rw [List.pairwise_cons] at hl hm
      have hxy : x = y := by
        have h1 : x ∈ y :: m := hp.mem_iff.1 (by simp)
        have h2 : y ∈ x :: l := hp.mem_iff.2 (by simp)
        rcases List.mem_cons.1 h1 with q | q
        · exact q
        · rcases List.mem_cons.1 h2 with r | r
          · exact r.symm
          · exact absurd (hm.1 x q) (Tm.lt_asymm (hl.1 y r))
      subst hxy
      rw [ih hl.2 hm.2 (List.Perm.cons_inv hp)]
theorem sorted_nodup {l : List Tm} (h : l.Pairwise Tm.lt) : l.Nodup := h.imp fun {a b} hab e => by subst e; exact Tm.lt_irrefl _ hab

/-- What is due up to a time, and what stays. -/
def due (to : Int) (l : List Tm) : List Tm := l.takeWhile fun x => decide (x.at_ ≤ to)
def rest (to : Int) (l : List Tm) : List Tm := l.dropWhile fun x => decide (x.at_ ≤ to)
theorem due_rest (to : Int) (l : List Tm) : due to l ++ rest to l = l := List.takeWhile_append_dropWhile
theorem mem_due {to : Int} {l : List Tm} {x : Tm} (h : x ∈ due to l) : x ∈ l ∧ x.at_ ≤ to := by
  unfold due at h
  refine ⟨List.takeWhile_sublist _ |>.subset h, ?_⟩
  induction l with
  | nil => simp at h
  | cons y l ih =>
    rw [List.takeWhile_cons] at h
    split at h
    · rename_i hy
      rcases List.mem_cons.1 h with rfl | q
      · simpa using hy
      · exact ih q
    · simp at h
theorem mem_rest {to : Int} {l : List Tm} (hs : l.Pairwise Tm.lt) {x : Tm} (h : x ∈ rest to l) : x ∈ l ∧ to < x.at_ := by
  refine ⟨(List.dropWhile_sublist _).subset h, ?_⟩
  induction l with
  | nil => simp [rest] at h
  | cons y l ih =>
    rw [List.pairwise_cons] at hs
    unfold rest at h
    rw [List.dropWhile_cons] at h
    split at h
    · exact ih hs.2 h
    · rename_i hn
      simp at hn
      rcases List.mem_cons.1 h with rfl | q
      · exact hn
      · have := hs.1 x q
        unfold Tm.lt at this
        omega
theorem due_mem {to : Int} {l : List Tm} (hs : l.Pairwise Tm.lt) {x : Tm} (h : x ∈ l) (hx : x.at_ ≤ to) : x ∈ due to l := by
  rw [← due_rest to l] at h
  rcases List.mem_append.1 h with q | q
  · exact q
  · have := (mem_rest hs q).2; omega
theorem rest_mem {to : Int} {l : List Tm} {x : Tm} (h : x ∈ l) (hx : to < x.at_) : x ∈ rest to l := by
  rw [← due_rest to l] at h
  rcases List.mem_append.1 h with q | q
  · have := (mem_due q).2; omega
  · exact q
theorem due_filter {to : Int} {l : List Tm} (hs : l.Pairwise Tm.lt) : due to l = l.filter fun x => decide (x.at_ ≤ to) := by
  induction l with
  | nil => rfl
  | cons y l ih =>
    rw [List.pairwise_cons] at hs
    unfold due at ih ⊢
    rw [List.takeWhile_cons, List.filter_cons]
    split
    · rw [ih hs.2]
    · rename_i hn
      simp at hn
      symm
      refine List.filter_eq_nil_iff.2 fun x hx => ?_
      have := hs.1 x hx
      unfold Tm.lt at this
      simp; omega
theorem rest_filter {to : Int} {l : List Tm} (hs : l.Pairwise Tm.lt) : rest to l = l.filter fun x => decide (to < x.at_) := by
  induction l with
  | nil => rfl
  | cons y l ih =>
    rw [List.pairwise_cons] at hs
    unfold rest at ih ⊢
    rw [List.dropWhile_cons, List.filter_cons]
    by_cases h : y.at_ ≤ to
    · have : ¬ to < y.at_ := by omega
      simp only [h, this, decide_true, decide_false]
      simp only [if_true]
      rw [if_neg (by simp)]
      exact ih hs.2
    · have h2 : to < y.at_ := by omega
      simp only [h, h2, decide_true, decide_false]
      rw [if_neg (by simp)]
      simp only [if_true]
      symm
      rw [List.filter_eq_self.2]
      intro x hx
      have := hs.1 x hx
      unfold Tm.lt at this
      simp; omega

def ins (x : Tm) (l : List Tm) : List Tm := due x.at_ l ++ x :: rest x.at_ l
theorem mem_ins {x y : Tm} {l : List Tm} : y ∈ ins x l ↔ y = x ∨ y ∈ l := by
  unfold ins
  rw [List.mem_append, List.mem_cons]
  constructor
  · rintro (h | h | h)
    · exact .inr (mem_due h).1
    · exact .inl h
    · exact .inr ((List.dropWhile_sublist _).subset h)
  · rintro (h | h)
    · exact .inr (.inl h)
    · rw [← due_rest x.at_ l] at h
      rcases List.mem_append.1 h with q | q
      · exact .inl q
      · exact .inr (.inr q)
theorem ins_perm (x : Tm) (l : List Tm) : (ins x l).Perm (x :: l) := by
  unfold ins
  refine List.perm_middle.trans ?_
  rw [due_rest]
theorem ins_sorted {x : Tm} {l : List Tm} (hs : l.Pairwise Tm.lt) (hq : ∀ y ∈ l, y.seq < x.seq) : (ins x l).Pairwise Tm.lt := by
  unfold ins
  rw [List.pairwise_append, List.pairwise_cons]
  have h0 := hs
  rw [← due_rest x.at_ l, List.pairwise_append] at h0
  refine ⟨h0.1, ⟨fun y hy => ?_, h0.2.1⟩, fun y hy z hz => ?_⟩
  · have := (mem_rest hs hy).2
    unfold Tm.lt; omega
  · rcases List.mem_cons.1 hz with rfl | hz
    · have h1 := mem_due hy
      have h2 := hq y h1.1
      unfold Tm.lt; omega
    · exact h0.2.2 y hy z hz

/-- The abstract wheel. -/
structure Wh where
  now : Int
  seq : Int
  a : AA
  l : List Tm
def freeAll (a : AA) (l : List Tm) : AA := l.foldl (fun a x => (a.free x.h).1) a
theorem freeAll_append (a : AA) (l m : List Tm) : freeAll a (l ++ m) = freeAll (freeAll a l) m := by simp [freeAll]
theorem freeAll_cons (a : AA) (x : Tm) (l : List Tm) : freeAll a (x :: l) = freeAll (a.free x.h).1 l := rfl
namespace Wh
def new (n : Nat) (now : Int) : Wh := { now := now, seq := 0, a := AA.empty n, l := [] }
/-- Add: the wheel behind it, the handle, the error. -/
def add (W : Wh) (at_ id : Int) : Wh × Int × Int :=
  if at_ < 0 ∨ NEVER < at_ then (W, 0, 2) else if at_ ≤ W.now then (W, 0, 8) else
  if (W.a.put id).2.2 = 0 then ({ W with a := (W.a.put id).1, seq := W.seq + 1, l := ins ⟨at_, id, (W.a.put id).2.1, W.seq + 1⟩ W.l }, (W.a.put id).2.1, 0) else (W, 0, 4)
def cancel (W : Wh) (h : Int) : Wh × Int :=
  if W.l.any (fun x => decide (x.h = h)) then ({ W with a := (W.a.free h).1, l := W.l.filter fun x => decide (x.h ≠ h) }, 0) else (W, 5)
def advance (W : Wh) (to : Int) : Wh × List Tm × Int :=
  if to < 0 ∨ NEVER < to then (W, [], 2) else if to < W.now then (W, [], 8) else
  ({ W with now := to, a := freeAll W.a (due to W.l), l := rest to W.l }, due to W.l, 0)
def next (W : Wh) : Int × Bool := match W.l with | [] => (0, false) | x :: _ => (x.at_, true)
def len (W : Wh) : Nat := W.l.length
def room (W : Wh) : Nat := W.a.room
end Wh

/-- What is true of every wheel. -/
structure WOk (W : Wh) : Prop where
  now : 0 ≤ W.now ∧ W.now ≤ NEVER
  sorted : W.l.Pairwise Tm.lt
  at_ : ∀ x ∈ W.l, W.now < x.at_ ∧ x.at_ ≤ NEVER
  seq : ∀ x ∈ W.l, 1 ≤ x.seq ∧ x.seq ≤ W.seq
  seq0 : 0 ≤ W.seq
  inv : AInv W.a
  hnd : ∀ x ∈ W.l, (W.a.find x.h).isSome = true
  inj : (W.l.map Tm.h).Nodup
  len : W.a.len = W.l.length
  use : ∀ s ∈ W.a.sl, s.use ≤ W.seq

theorem find_lo {a : AA} (ok : AOk a) {h : Int} (q : (a.find h).isSome = true) : 4096 ≤ h ∧ h ≤ 8796093026303 := by
  obtain ⟨k, s, h1, h2, h3⟩ := (find_isSome ok h).1 q
  have h4 := ok.tk k s h1 h2
  have h5 := ok.use k s h1
  have h6 := (List.getElem?_eq_some_iff.1 h1).1
  have h7 := ok.len
  omega
theorem WOk.hlo {W : Wh} (ok : WOk W) {x : Tm} (h : x ∈ W.l) : 4096 ≤ x.h ∧ x.h ≤ 8796093026303 := find_lo ok.inv.toAOk (ok.hnd x h)

theorem WOk.new {n : Nat} {now : Int} (hn : n ≤ 4096) (h0 : 0 ≤ now) (h1 : now ≤ NEVER) : WOk (Wh.new n now) where
  now := ⟨h0, h1⟩
  sorted := List.Pairwise.nil
  at_ := fun x h => by simp [Wh.new] at h
  seq := fun x h => by simp [Wh.new] at h
  seq0 := Int.le_refl _
  inv := AInv.empty hn
  hnd := fun x h => by simp [Wh.new] at h
  inj := by simp [Wh.new]
  len := by simp [Wh.new, AA.len, AA.empty, List.countP_replicate]
  use := fun s h => by simp only [Wh.new, AA.empty, List.mem_replicate] at h; rw [h.2]; exact Int.le_refl _

/-- The three ways of Add. -/
theorem WOk.add {W W' : Wh} {at_ id h e : Int} (ok : WOk W) (hp : W.add at_ id = (W', h, e)) :
    (e ≠ 0 ∧ W' = W ∧ h = 0) ∨ (e = 0 ∧ WOk W' ∧ W.now < at_ ∧ at_ ≤ NEVER ∧ W'.now = W.now ∧ W'.seq = W.seq + 1 ∧ W'.l = ins ⟨at_, id, h, W.seq + 1⟩ W.l ∧ (∀ x ∈ W.l, x.h ≠ h) ∧ PutOk W.a W'.a h ∧ W.a.put id = (W'.a, h, 0)) := by
  unfold Wh.add at hp
  split at hp
  · injection hp with e1 e2; injection e2 with e2 e3; subst e1 e2 e3; exact .inl ⟨by decide, rfl, rfl⟩
  split at hp
  · injection hp with e1 e2; injection e2 with e2 e3; subst e1 e2 e3; exact .inl ⟨by decide, rfl, rfl⟩
  rename_i h1 h2
  split at hp
  · rename_i hz
    obtain ⟨a', h', e', hput⟩ : ∃ a' h' e', W.a.put id = (a', h', e') := ⟨_, _, _, rfl⟩
    rw [hput] at hz hp
    simp only at hz hp
    injection hp with e1 e2; injection e2 with e2 e3
    subst hz
    rcases put_spec ok.inv hput with ⟨-, P⟩ | ⟨q, -⟩
    rotate_left
    · cases q
    have hne : ∀ x ∈ W.l, x.h ≠ h' := fun x hx e => by
      have := ok.hnd x hx
      rw [e, P.new] at this; simp at this
    have hn := ok.now
    subst e1 e2 e3
    refine .inr ⟨rfl, ?_, by omega, by omega, rfl, rfl, rfl, hne, P, hput⟩
    exact {
      now := ok.now
      sorted := ins_sorted ok.sorted fun y hy => by have := (ok.seq y hy).2; simp only; omega
      at_ := fun x hx => by
        rcases mem_ins.1 hx with rfl | hx
        · exact ⟨by simp only; omega, by simp only; omega⟩
        · exact ok.at_ x hx
      seq := fun x hx => by
        have := ok.seq0
        rcases mem_ins.1 hx with rfl | hx
        · exact ⟨by simp only; omega, by simp only; omega⟩
        · have := ok.seq x hx; simp only; omega
      seq0 := by have := ok.seq0; simp only; omega
      inv := P.inv
      hnd := fun x hx => by
        rcases mem_ins.1 hx with rfl | hx
        · exact P.found
        · rw [P.others _ (hne x hx)]; exact ok.hnd x hx
      inj := by
        refine (((ins_perm _ W.l).map Tm.h).nodup_iff).2 ?_
        rw [List.map_cons, List.nodup_cons]
        refine ⟨fun hm => ?_, ok.inj⟩
        obtain ⟨y, hy, e⟩ := List.mem_map.1 hm
        exact hne y hy e
      len := by
        rw [P.len, ok.len, (ins_perm _ W.l).length_eq]; rfl
      use := P.use _ ok.use }
  · injection hp with e1 e2; injection e2 with e2 e3; subst e1 e2 e3; exact .inl ⟨by decide, rfl, rfl⟩

/-- The two ways of Cancel. -/
theorem cancel_none {W : Wh} {h : Int} (hn : ∀ x ∈ W.l, x.h ≠ h) : W.cancel h = (W, 5) := by
  unfold Wh.cancel
  rw [if_neg]
  simpa using hn
theorem cancel_some {W : Wh} {h : Int} {x : Tm} (hx : x ∈ W.l) (e : x.h = h) : W.cancel h = ({ W with a := (W.a.free h).1, l := W.l.filter fun x => decide (x.h ≠ h) }, 0) := by
  unfold Wh.cancel
  rw [if_pos]
  simp only [List.any_eq_true, decide_eq_true_eq]
  exact ⟨x, hx, e⟩
theorem nodup_filter_len {l : List Tm} (hn : (l.map Tm.h).Nodup) {x : Tm} (hx : x ∈ l) : (l.filter fun y => decide (y.h ≠ x.h)).length + 1 = l.length := by
  induction l with
  | nil => simp at hx
  | cons y l ih =>
    rw [List.map_cons, List.nodup_cons] at hn
    rw [List.filter_cons]
    rcases List.mem_cons.1 hx with rfl | hx
    · simp
      intro z hz e
      exact hn.1 (List.mem_map.2 ⟨z, hz, e⟩)
    · have : y.h ≠ x.h := fun e => hn.1 (List.mem_map.2 ⟨x, hx, e.symm⟩)
      simp only [this, ne_eq, not_false_eq_true, decide_true, if_true, List.length_cons]
      have := ih hn.2 hx
      simp only [ne_eq] at this
      omega
theorem WOk.cancel {W : Wh} (ok : WOk W) {x : Tm} (hx : x ∈ W.l) : WOk { W with a := (W.a.free x.h).1, l := W.l.filter fun y => decide (y.h ≠ x.h) } ∧ FreeOk W.a (W.a.free x.h).1 x.h := by
  have F : FreeOk W.a (W.a.free x.h).1 x.h := (free_spec (e := (W.a.free x.h).2) ok.inv (ok.hnd x hx) rfl).2
  have hsub : (W.l.filter fun y => decide (y.h ≠ x.h)).Sublist W.l := List.filter_sublist
  refine ⟨?_, F⟩
  exact {
    now := ok.now
    sorted := ok.sorted.sublist hsub
    at_ := fun y hy => ok.at_ y (hsub.subset hy)
    seq := fun y hy => ok.seq y (hsub.subset hy)
    seq0 := ok.seq0
    inv := F.inv
    hnd := fun y hy => by
      have h1 := (List.mem_filter.1 hy)
      rw [F.others _ (by simpa using h1.2)]
      exact ok.hnd y h1.1
    inj := ok.inj.sublist (hsub.map _)
    len := by
      have h1 := F.len
      have h2 := ok.len
      have h3 := nodup_filter_len ok.inj hx
      simp only
      omega
    use := F.use _ ok.use }
/-- One timer less. -/
theorem WOk.drop {W : Wh} (ok : WOk W) {x : Tm} {r : List Tm} (h : W.l = x :: r) : WOk { W with a := (W.a.free x.h).1, l := r } := by
  have hx : x ∈ W.l := by rw [h]; simp
  have := (ok.cancel hx).1
  have e : (W.l.filter fun y => decide (y.h ≠ x.h)) = r := by
    have hn := ok.inj
    rw [h, List.map_cons, List.nodup_cons] at hn
    rw [h, List.filter_cons]
    simp only [ne_eq, not_true_eq_false, decide_false]
    rw [if_neg (by simp)]
    refine List.filter_eq_self.2 fun y hy => ?_
    simp only [decide_eq_true_eq]
    exact fun e => hn.1 (List.mem_map.2 ⟨y, hy, e⟩)
  rw [e] at this
  exact this
theorem WOk.freeAll {W : Wh} (ok : WOk W) : ∀ {l r : List Tm}, W.l = l ++ r → WOk { W with a := freeAll W.a l, l := r }
  | [], r, h => by
    have : { W with a := Go.Proofs.YtjlcchjcppkbjaaDoor.freeAll W.a [], l := r } = W := by
      cases W; simp only at h; subst h; rfl
    rw [this]; exact ok
  | x :: l, r, h => by
    have h1 := ok.drop (x := x) (r := l ++ r) h
    exact WOk.freeAll h1 (l := l) (r := r) rfl
theorem WOk.advance {W : Wh} (ok : WOk W) {to : Int} (h0 : W.now ≤ to) (h1 : to ≤ NEVER) : WOk { W with now := to, a := Go.Proofs.YtjlcchjcppkbjaaDoor.freeAll W.a (due to W.l), l := rest to W.l } := by
  have h := ok.freeAll (due_rest to W.l).symm
  have hn := ok.now
  exact { h with
    now := ⟨by simp only; omega, h1⟩
    at_ := fun x hx => ⟨(mem_rest ok.sorted hx).2, (ok.at_ x ((List.dropWhile_sublist _).subset hx)).2⟩ }
theorem freeAll_size (a : AA) (l : List Tm) : (freeAll a l).sl.length = a.sl.length := by
  induction l generalizing a with
  | nil => rfl
  | cons x l ih =>
    rw [freeAll_cons, ih]
    unfold AA.free
    split <;> simp
theorem advance_ok {W : Wh} {to : Int} (h0 : W.now ≤ to) (h00 : 0 ≤ W.now) (h1 : to ≤ NEVER) : W.advance to = ({ W with now := to, a := freeAll W.a (due to W.l), l := rest to W.l }, due to W.l, 0) := by
  unfold Wh.advance
  rw [if_neg (by omega), if_neg (by omega)]
/-- Due in two steps. -/
theorem due_split {s t : Int} (h : s ≤ t) (l : List Tm) : due t l = due s l ++ due t (rest s l) ∧ rest t l = rest t (rest s l) := by
  induction l with
  | nil => exact ⟨rfl, rfl⟩
  | cons y l ih =>
    unfold due rest at ih ⊢
    by_cases h1 : y.at_ ≤ s
    · have h2 : y.at_ ≤ t := by omega
      simp only [List.takeWhile_cons, List.dropWhile_cons, h1, h2, decide_true, if_true]
      exact ⟨by rw [ih.1]; rfl, ih.2⟩
    · have e1 : List.takeWhile (fun x : Tm => decide (x.at_ ≤ s)) (y :: l) = [] := by rw [List.takeWhile_cons, if_neg (by simpa using h1)]
      have e2 : List.dropWhile (fun x : Tm => decide (x.at_ ≤ s)) (y :: l) = y :: l := by rw [List.dropWhile_cons, if_neg (by simpa using h1)]
      rw [e1, e2]
      exact ⟨rfl, rfl⟩
end Go.Proofs.YtjlcchjcppkbjaaDoor
