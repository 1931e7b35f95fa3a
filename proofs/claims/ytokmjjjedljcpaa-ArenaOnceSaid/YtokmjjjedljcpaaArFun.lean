/- The abstract arena with its slots given by a function: what each call does. No program in sight. -/
import Derived.Test.YtokmjjjedljcpaaArAbs
namespace Go.Proofs.Ytokmjjjedljcpaa

/-- The function f, changed at k. -/
def updU (f : Nat → U) (k : Nat) (u : U) : Nat → U := fun x => if x = k then u else f x
theorem updU_at (f : Nat → U) (k : Nat) (u : U) : updU f k u k = u := if_pos rfl
theorem updU_ne (f : Nat → U) {k x : Nat} (u : U) (h : x ≠ k) : updU f k u x = f x := if_neg h

namespace AA
/-- The arena of N slots f 0, f 1, .. -/
def of (N : Nat) (f : Nat → U) (fl : List Nat) : AA := { sl := (List.range N).map f, fl := fl }

theorem of_get (N : Nat) (f : Nat → U) (fl : List Nat) (k : Nat) : (of N f fl).sl[k]? = if k < N then some (f k) else none := by
  simp only [of, List.getElem?_map]
  split <;> simp_all
theorem of_set (N : Nat) (f : Nat → U) (fl : List Nat) (k : Nat) (u : U) (hk : k < N) : (of N f fl).sl.set k u = (List.range N).map (updU f k u) := by
  apply List.ext_getElem?
  intro i
  rw [List.getElem?_set]
  by_cases h : k = i
  · subst h
    simp [of, hk, updU]
  · rw [if_neg h, of_get]
    by_cases hi : i < N
    · simp [hi, updU, Ne.symm h]
    · simp [hi]
theorem of_empty (N : Nat) : empty N = of N (fun _ => { use := 0, taken := false, v := 0 }) [] := by
  simp [empty, of, List.map_const']

theorem put_pop {N : Nat} {f : Nat → U} {k : Nat} {r : List Nat} (v : Int) (hk : k < N) :
    (of N f (k :: r)).put v = (of N (updU f k { use := (f k).use + 1, taken := true, v := v }) r, 4096 * ((f k).use + 1) + k, 0) := by
  have h : (of N f (k :: r)).pick = some (k, f k, r) := by
    show ((of N f (k :: r)).sl[k]?).map _ = _
    rw [of_get, if_pos hk]; rfl
  unfold put
  rw [h]
  simp only [fill, of_set _ _ _ _ _ hk]
  rfl
theorem put_new {N : Nat} {f : Nat → U} {k : Nat} (v : Int) (hk : k < N) (h0 : ∀ x, x < k → (f x).use ≠ 0) (hu : (f k).use = 0) :
    (of N f []).put v = (of N (updU f k { use := 1, taken := true, v := v }) [], 4096 + (k : Int), 0) := by
  have e : (of N f []).sl.findIdx (·.use == 0) = k := by
    have hl : k < (of N f []).sl.length := by simpa [of] using hk
    refine (List.findIdx_eq hl).2 ⟨by simpa [of] using hu, fun j hj => by simpa [of] using h0 j hj⟩
  have h : (of N f []).pick = some (k, f k, []) := by
    show ((of N f []).sl[(of N f []).sl.findIdx (·.use == 0)]?).map _ = _
    rw [e, of_get, if_pos hk]; rfl
  unfold put
  rw [h]
  simp only [fill, of_set _ _ _ _ _ hk, hu]
  rfl
theorem put_full {N : Nat} {f : Nat → U} (v : Int) (h0 : ∀ x, x < N → (f x).use ≠ 0) : (of N f []).put v = (of N f [], 0, 4) := by
  have e : (of N f []).sl.findIdx (·.use == 0) = N := by
    have : (of N f []).sl.length = N := by simp [of]
    refine Eq.trans (List.findIdx_eq_length.2 fun x hx => ?_) this
    simp only [of, List.mem_map, List.mem_range] at hx
    obtain ⟨j, hj, rfl⟩ := hx
    simpa using h0 j hj
  have h : (of N f []).pick = none := by
    show ((of N f []).sl[(of N f []).sl.findIdx (·.use == 0)]?).map _ = _
    rw [e, of_get, if_neg (by omega)]; rfl
  unfold put
  rw [h]

/-- A handle, and the slot and the use that it would name. -/
theorem find_of (N : Nat) (f : Nat → U) (fl : List Nat) (u : Int) (k : Nat) (hN : N ≤ 4096) (hk : k < N) (hu : 1 ≤ u) :
    (of N f fl).find (4096 * u + k) = if (f k).taken = true ∧ (f k).use = u then some (k, f k) else none := by
  have e : ((4096 * u + (k : Int)) % 4096) = k := by omega
  unfold find
  rw [if_neg (by omega), e, Int.toNat_natCast, of_get, if_pos hk]
  simp only
  have q : (4096 * (f k).use + (k : Int) = 4096 * u + k) ↔ (f k).use = u := by omega
  simp only [q]
theorem get_of {N : Nat} {f : Nat → U} {fl : List Nat} {h : Int} (u : Int) (k : Nat) (hh : h = 4096 * u + k) (hN : N ≤ 4096) (hk : k < N) (hu : 1 ≤ u) :
    (of N f fl).get h = if (f k).taken = true ∧ (f k).use = u then ((f k).v, true) else (0, false) := by
  subst hh
  unfold get
  rw [find_of N f fl u k hN hk hu]
  split
  · rename_i k' s hq
    split at hq
    · rename_i hc; rw [if_pos hc]; injection hq with hq; injection hq with h1 h2; subst h2; rfl
    · simp at hq
  · rename_i hq
    split at hq
    · simp at hq
    · rename_i hc; rw [if_neg hc]
theorem free_of {N : Nat} {f : Nat → U} {fl : List Nat} {h : Int} (u : Int) (k : Nat) (hh : h = 4096 * u + k) (hN : N ≤ 4096) (hk : k < N) (hu : 1 ≤ u) (hw : u ≠ 2147483648) :
    (of N f fl).free h = if (f k).taken = true ∧ (f k).use = u then (of N (updU f k { f k with taken := false }) (k :: fl), 0) else (of N f fl, 5) := by
  subst hh
  unfold free
  rw [find_of N f fl u k hN hk hu]
  split
  · rename_i k' s hq
    split at hq
    · rename_i hc
      rw [if_pos hc]
      injection hq with hq; injection hq with h1 h2
      subst h1 h2
      rw [if_neg (by rw [hc.2]; exact hw), of_set _ _ _ _ _ hk]
      rfl
    · simp at hq
  · rename_i hq
    split at hq
    · simp at hq
    · rename_i hc; rw [if_neg hc]
theorem len_of (N : Nat) (f : Nat → U) (fl : List Nat) : (of N f fl).len = (List.range N).countP fun x => (f x).taken := by
  simp only [len, of, List.countP_map]; rfl
theorem room_of (N : Nat) (f : Nat → U) (fl : List Nat) : (of N f fl).room = (List.range N).countP fun x => !(f x).taken && (f x).use != 2147483648 := by
  simp only [room, of, List.countP_map]; rfl
theorem len_all {N : Nat} {f : Nat → U} {fl : List Nat} (h : ∀ x, x < N → (f x).taken = true) : (of N f fl).len = N := by
  rw [len_of]
  have : (List.range N).countP (fun x => (f x).taken) = (List.range N).length := List.countP_eq_length.2 fun x hx => h x (List.mem_range.1 hx)
  simpa using this
theorem room_none {N : Nat} {f : Nat → U} {fl : List Nat} (h : ∀ x, x < N → (f x).taken = true) : (of N f fl).room = 0 := by
  rw [room_of]
  exact List.countP_eq_zero.2 fun x hx => by simp [h x (List.mem_range.1 hx)]
end AA
end Go.Proofs.Ytokmjjjedljcpaa
