/- ArAbs: texts for the statements of this seat: contracts of functions, walks, plain laws. Conditions: none. -/
import Derived.Test.YtokmjjjedljcpaaArModel
set_option linter.all false
/- The abstract arena: slots with uses, and the stack of those that were freed; how the program's arena stands for one. No program in sight. -/
namespace Go.Proofs.Ytokmjjjedljcpaa

/-- A slot: how often it was used, whether it is taken, its number. -/
structure U where
  use : Int
  taken : Bool
  v : Int

/-- The abstract arena: the slots, and those that were freed and are not worn out, the last one first. -/
structure AA where
  sl : List U
  fl : List Nat

namespace AA
def empty (n : Nat) : AA := { sl := List.replicate n { use := 0, taken := false, v := 0 }, fl := [] }
def fill (a : AA) (k : Nat) (s : U) (v : Int) (fl : List Nat) : AA := { sl := a.sl.set k { use := s.use + 1, taken := true, v := v }, fl := fl }
/-- The slot that Put takes, and the stack behind it. -/
def pick (a : AA) : Option (Nat × U × List Nat) :=
  match a.fl with
  | k :: r => (a.sl[k]?).map fun s => (k, s, r)
  | [] => (a.sl[a.sl.findIdx (·.use == 0)]?).map fun s => (a.sl.findIdx (·.use == 0), s, [])
def put (a : AA) (v : Int) : AA × Int × Int :=
  match a.pick with
  | some (k, s, r) => (a.fill k s v r, 4096 * (s.use + 1) + k, 0)
  | none => (a, 0, 4)
def find (a : AA) (h : Int) : Option (Nat × U) :=
  if h < 4096 then none else
  match a.sl[(h % 4096).toNat]? with
  | some s => if s.taken = true ∧ 4096 * s.use + h % 4096 = h then some ((h % 4096).toNat, s) else none
  | none => none
def get (a : AA) (h : Int) : Int × Bool :=
  match a.find h with
  | some (_, s) => (s.v, true)
  | none => (0, false)
def free (a : AA) (h : Int) : AA × Int :=
  match a.find h with
  | some (k, s) => ({ sl := a.sl.set k { s with taken := false }, fl := if s.use = 2147483648 then a.fl else k :: a.fl }, 0)
  | none => (a, 5)
def len (a : AA) : Nat := a.sl.countP (·.taken)
def room (a : AA) : Nat := a.sl.countP fun s => !s.taken && s.use != 2147483648
def upto (a : AA) : List Nat := (List.range a.sl.length).filter fun j => match a.sl[j]? with | some s => s.taken | none => false
def hnd (a : AA) (k : Nat) : Int := match a.sl[k]? with | some s => 4096 * s.use + k | none => 0
def live (a : AA) : List Int := a.upto.map a.hnd
end AA

/-- The links of the freed slots. -/
def Chain (sl : List Sl) : Int → List Nat → Prop
  | f, [] => f = -1
  | f, k :: r => f = k ∧ ∃ s, sl[k]? = some s ∧ Chain sl s.next r

theorem Chain.set {sl : List Sl} {k : Nat} (t : Sl) : ∀ {f : Int} {fl : List Nat}, Chain sl f fl → k ∉ fl → Chain (sl.set k t) f fl
  | _, [], h, _ => h
  | f, j :: r, ⟨hf, s, hs, hc⟩, hn => by
    have hj : k ≠ j := fun e => hn (by simp [e])
    exact ⟨hf, s, by rw [List.getElem?_set_ne hj]; exact hs, hc.set t (fun h => hn (by simp [h]))⟩

def Sl.u (s : Sl) : U := { use := s.use, taken := s.taken, v := s.v }

/-- The arena A stands for a. -/
structure Rep (A : Ar) (a : AA) : Prop where
  sl : A.sl.map Sl.u = a.sl
  len : A.sl.length ≤ 4096
  chain : Chain A.sl A.freed a.fl
  nodup : a.fl.Nodup
  fr0 : 0 ≤ A.fresh
  fr1 : A.fresh ≤ A.sl.length
  old : ∀ (k : Nat) (s : Sl), A.sl[k]? = some s → (k : Int) < A.fresh → 1 ≤ s.use ∧ s.use ≤ 2147483648
  new : ∀ (k : Nat) (s : Sl), A.sl[k]? = some s → A.fresh ≤ k → s.use = 0 ∧ s.taken = false
  inl : ∀ k ∈ a.fl, ∃ s, A.sl[k]? = some s ∧ s.taken = false ∧ (k : Int) < A.fresh ∧ s.use ≠ 2147483648
  next : ∀ s ∈ A.sl, -1 ≤ s.next ∧ s.next < A.sl.length
  tk : A.taken = A.sl.countP (·.taken)
  lo : A.lost = A.sl.countP fun s => !s.taken && s.use == 2147483648

namespace Rep
variable {A : Ar} {a : AA}

theorem getU (R : Rep A a) (k : Nat) : a.sl[k]? = (A.sl[k]?).map Sl.u := by rw [← R.sl, List.getElem?_map]
theorem length (R : Rep A a) : a.sl.length = A.sl.length := by rw [← R.sl, List.length_map]

theorem use (R : Rep A a) {k : Nat} {s : Sl} (hs : A.sl[k]? = some s) : 0 ≤ s.use ∧ s.use ≤ 2147483648 := by
  by_cases h : (k : Int) < A.fresh
  · have := R.old k s hs h; omega
  · have := R.new k s hs (by omega); omega

theorem freed (R : Rep A a) : -1 ≤ A.freed ∧ A.freed < A.sl.length := by
  have c := R.chain
  cases hf : a.fl with
  | nil => rw [hf] at c; have : A.freed = -1 := c; omega
  | cons k r =>
    rw [hf] at c
    obtain ⟨e, s, hs, -⟩ := c
    have := (List.getElem?_eq_some_iff.1 hs).1
    omega

theorem ok (R : Rep A a) : A.Ok where
  len := R.len
  fd0 := R.freed.1
  fd1 := R.freed.2
  fr0 := R.fr0
  fr1 := R.fr1
  use := fun s hs => by
    obtain ⟨k, hk⟩ := List.getElem?_of_mem hs
    have := R.use hk; omega
  next := R.next
  tk := by rw [R.tk]; have := List.countP_le_length (p := fun s : Sl => s.taken) (l := A.sl); have := R.len; omega
  lo := by rw [R.lo]; have := List.countP_le_length (p := fun s : Sl => !s.taken && s.use == 2147483648) (l := A.sl); have := R.len; omega

theorem empty {n : Nat} (h : n ≤ 4096) : Rep (Ar.empty n) (AA.empty n) where
  sl := by simp [Ar.empty, AA.empty, Sl.u]
  len := by simpa [Ar.empty] using h
  chain := rfl
  nodup := List.nodup_nil
  fr0 := Int.le_refl _
  fr1 := by simp [Ar.empty]
  old := fun k s _ hk => by simp only [Ar.empty] at hk; omega
  new := fun k s hs _ => by
    simp only [Ar.empty, List.getElem?_replicate] at hs
    split at hs
    · obtain rfl := Option.some.inj hs; exact ⟨rfl, rfl⟩
    · simp at hs
  inl := fun k hk => by simp [AA.empty] at hk
  next := fun s hs => by
    simp only [Ar.empty, List.mem_replicate] at hs
    obtain ⟨h0, rfl⟩ := hs
    simp [Ar.empty]; omega
  tk := by simp [Ar.empty, List.countP_replicate]
  lo := by simp [Ar.empty, List.countP_replicate]

/-- The first slot that was not used. -/
theorem fresh (R : Rep A a) : a.sl.findIdx (·.use == 0) = A.fresh.toNat := by
  have h0 := R.fr0
  have h1 := R.fr1
  have hlt : ∀ j, j < A.fresh.toNat → ∃ s, A.sl[j]? = some s ∧ a.sl[j]? = some s.u ∧ s.use ≠ 0 := fun j hj => by
    obtain ⟨s, hs⟩ : ∃ s, A.sl[j]? = some s := ⟨_, List.getElem?_eq_getElem (by omega)⟩
    exact ⟨s, hs, by rw [R.getU, hs]; rfl, by have := (R.old j s hs (by omega)).1; omega⟩
  by_cases hm : A.fresh.toNat < A.sl.length
  · obtain ⟨s, hs⟩ : ∃ s, A.sl[A.fresh.toNat]? = some s := ⟨_, List.getElem?_eq_getElem hm⟩
    have hu := R.new _ s hs (by omega)
    have hl : A.fresh.toNat < a.sl.length := by rw [R.length]; exact hm
    refine (List.findIdx_eq hl).2 ⟨?_, ?_⟩
    · have : a.sl[A.fresh.toNat]? = some s.u := by rw [R.getU, hs]; rfl
      rw [List.getElem?_eq_getElem hl] at this
      rw [Option.some.inj this]; simpa [Sl.u] using hu.1
    · intro j hj
      obtain ⟨t, ht, hat, hne⟩ := hlt j hj
      rw [List.getElem?_eq_getElem (by omega)] at hat
      rw [Option.some.inj hat]; simpa [Sl.u] using hne
  · have e : A.fresh.toNat = a.sl.length := by rw [R.length]; omega
    rw [e]
    refine List.findIdx_eq_length.2 ?_
    intro x hx
    obtain ⟨j, hj⟩ := List.getElem?_of_mem hx
    have hjl := (List.getElem?_eq_some_iff.1 hj).1
    obtain ⟨t, ht, hat, hne⟩ := hlt j (by omega)
    rw [hj] at hat
    rw [Option.some.inj hat]; simpa [Sl.u] using hne

theorem find (R : Rep A a) (h : Int) : a.find h = (A.find h).map fun p => (p.1, p.2.u) := by
  unfold AA.find Ar.find
  split
  · rfl
  · rw [R.getU]
    cases A.sl[(h % 4096).toNat]? with
    | none => rfl
    | some s =>
      simp only [Option.map_some, Sl.u]
      split <;> simp

theorem get (R : Rep A a) (h : Int) : A.get h = a.get h := by
  unfold AA.get Ar.get
  rw [R.find]
  cases A.find h with
  | none => rfl
  | some p => rfl

theorem mem_set {l : List Sl} {k : Nat} {t s : Sl} (h : s ∈ l.set k t) : s ∈ l ∨ s = t := List.mem_or_eq_of_mem_set h

/-- A slot is filled. -/
theorem fill (R : Rep A a) {k : Nat} {s : Sl} (hs : A.sl[k]? = some s) (ht : s.taken = false) (hw : s.use ≠ 2147483648) (v : Int) {fd fr : Int} {r : List Nat}
    (hr : r.Nodup) (hrm : ∀ j ∈ r, j ∈ a.fl ∧ j ≠ k) (hc : Chain A.sl fd r) (hfr : fr = A.fresh ∧ (k : Int) < A.fresh ∨ (fr = A.fresh + 1 ∧ (k : Int) = A.fresh)) :
    Rep { A.fill k s v with freed := fd, fresh := fr } (a.fill k s.u v r) where
  sl := by simp only [Ar.fill, AA.fill, List.map_set, R.sl]; rfl
  len := by simpa [Ar.fill] using R.len
  chain := hc.set _ (fun h => (hrm k h).2 rfl)
  nodup := hr
  fr0 := by have := R.fr0; simp only; omega
  fr1 := by have := R.fr1; have := (List.getElem?_eq_some_iff.1 hs).1; simp only [Ar.fill, List.length_set]; omega
  old := fun j t hj hlt => by
    simp only [Ar.fill] at hj hlt
    have hu := R.use hs
    rw [List.getElem?_set] at hj
    split at hj
    · split at hj
      · obtain rfl := Option.some.inj hj; simp only; omega
      · simp at hj
    · exact R.old j t hj (by omega)
  new := fun j t hj hlt => by
    simp only [Ar.fill] at hj hlt
    rw [List.getElem?_set_ne (by omega)] at hj
    exact R.new j t hj (by omega)
  inl := fun j hj => by
    obtain ⟨hm, hne⟩ := hrm j hj
    obtain ⟨t, h1, h2, h3, h4⟩ := R.inl j hm
    exact ⟨t, by simp only [Ar.fill]; rw [List.getElem?_set_ne (Ne.symm hne)]; exact h1, h2, by simp only; omega, h4⟩
  next := fun t h => by
    simp only [Ar.fill, List.length_set] at h ⊢
    rcases mem_set h with h | rfl
    · exact R.next t h
    · simp only; omega
  tk := by
    have hl := (List.getElem?_eq_some_iff.1 hs)
    simp only [Ar.fill]
    rw [List.countP_set hl.1, R.tk, hl.2, ht]
    simp
  lo := by
    have hl := (List.getElem?_eq_some_iff.1 hs)
    simp only [Ar.fill]
    rw [List.countP_set hl.1, R.lo, hl.2, ht]
    simp [hw]

theorem put (R : Rep A a) (v : Int) {a' : AA} {h e : Int} (hp : a.put v = (a', h, e)) : ∃ A', A.put v = (A', h, e) ∧ Rep A' a' := by
  unfold AA.put AA.pick at hp
  unfold Ar.put
  cases hf : a.fl with
  | cons k r =>
    have c := R.chain
    rw [hf] at c hp
    obtain ⟨hk, s, hs, hc⟩ := c
    obtain ⟨s', hs', ht, hlt, hw⟩ := R.inl k (by simp [hf])
    rw [hs] at hs'
    obtain rfl := Option.some.inj hs'
    have e1 : a.sl[k]? = some s.u := by rw [R.getU, hs]; rfl
    simp only [e1, Option.map_some, Prod.mk.injEq] at hp
    obtain ⟨rfl, rfl, rfl⟩ := hp
    rw [if_pos (by omega), show A.freed.toNat = k from by omega, hs]
    have nd := R.nodup
    rw [hf, List.nodup_cons] at nd
    exact ⟨_, by rw [hk]; rfl, R.fill hs ht hw v nd.2 (fun j hj => ⟨by simp [hf, hj], fun e => nd.1 (e ▸ hj)⟩) hc (.inl ⟨rfl, hlt⟩)⟩
  | nil =>
    have c := R.chain
    rw [hf] at c hp
    have hq : A.freed = -1 := c
    rw [if_neg (by omega)]
    simp only [R.fresh, R.getU] at hp
    cases hs : A.sl[A.fresh.toNat]? with
    | none =>
      rw [hs] at hp
      simp only [Option.map_none, Prod.mk.injEq] at hp
      obtain ⟨rfl, rfl, rfl⟩ := hp
      exact ⟨_, rfl, R⟩
    | some s =>
      rw [hs] at hp
      simp only [Option.map_some, Prod.mk.injEq] at hp
      obtain ⟨rfl, rfl, rfl⟩ := hp
      have h0 := R.fr0
      have hn := R.new _ s hs (by omega)
      refine ⟨_, ?_, R.fill hs hn.2 (by omega) v List.nodup_nil (fun j hj => by simp at hj) c (.inr ⟨rfl, by omega⟩)⟩
      simp only [Sl.u]
      congr 2
      omega

theorem free (R : Rep A a) (h : Int) {a' : AA} {e : Int} (hp : a.free h = (a', e)) : ∃ A', A.free h = (A', e) ∧ Rep A' a' := by
  unfold AA.free at hp
  unfold Ar.free
  rw [R.find] at hp
  cases hf : A.find h with
  | none =>
    rw [hf] at hp
    simp only [Option.map_none, Prod.mk.injEq] at hp
    obtain ⟨rfl, rfl⟩ := hp
    exact ⟨A, rfl, R⟩
  | some p =>
    obtain ⟨k, s⟩ := p
    rw [hf] at hp
    simp only [Option.map_some, Prod.mk.injEq] at hp
    obtain ⟨rfl, rfl⟩ := hp
    obtain ⟨-, -, hs, ht, -⟩ := Ar.find_spec hf
    have hl := (List.getElem?_eq_some_iff.1 hs)
    have hu := R.use hs
    have hkf : (k : Int) < A.fresh := by
      rcases Int.lt_or_le (k : Int) A.fresh with q | q
      · exact q
      · have := (R.new k s hs q).2; rw [ht] at this; simp at this
    have hkn : k ∉ a.fl := fun hm => by
      obtain ⟨t, h1, h2, -⟩ := R.inl k hm
      rw [hs] at h1; obtain rfl := Option.some.inj h1
      rw [ht] at h2; simp at h2
    have hfr := R.freed
    have hol := R.old k s hs hkf
    simp only
    by_cases hw : s.use = 2147483648
    · rw [if_pos hw]
      refine ⟨_, rfl, ?_⟩
      simp only [Sl.u, hw, if_true]
      exact {
        sl := by simp only [List.map_set, R.sl]; simp [Sl.u]
        len := by simpa using R.len
        chain := R.chain.set _ hkn
        nodup := R.nodup
        fr0 := R.fr0
        fr1 := by simpa using R.fr1
        old := fun j t hj hlt => by
          simp only at hj hlt
          rw [List.getElem?_set] at hj
          split at hj
          · split at hj
            · obtain rfl := Option.some.inj hj; simp only; omega
            · simp at hj
          · exact R.old j t hj hlt
        new := fun j t hj hlt => by
          simp only at hj hlt
          rw [List.getElem?_set_ne (by omega)] at hj
          exact R.new j t hj hlt
        inl := fun j hj => by
          obtain ⟨t, h1, h2, h3, h4⟩ := R.inl j hj
          exact ⟨t, by simp only; rw [List.getElem?_set_ne (fun (e : k = j) => hkn (by rw [e]; exact hj))]; exact h1, h2, h3, h4⟩
        next := fun t ht' => by
          simp only [List.length_set] at ht' ⊢
          rcases mem_set ht' with q | rfl
          · exact R.next t q
          · exact R.next s (List.mem_of_getElem? hs)
        tk := by
          simp only
          rw [List.countP_set hl.1, R.tk, hl.2, ht]
          have : 0 < A.sl.countP (·.taken) := List.countP_pos_iff.2 ⟨s, List.mem_of_getElem? hs, ht⟩
          simp; omega
        lo := by
          simp only
          rw [List.countP_set hl.1, R.lo, hl.2, ht]
          simp [hw] }
    · rw [if_neg hw]
      refine ⟨_, rfl, ?_⟩
      simp only [Sl.u, hw, if_false]
      exact {
        sl := by simp only [List.map_set, R.sl]; simp [Sl.u]
        len := by simpa using R.len
        chain := ⟨rfl, _, set_at hs _, R.chain.set _ hkn⟩
        nodup := List.nodup_cons.2 ⟨hkn, R.nodup⟩
        fr0 := R.fr0
        fr1 := by simpa using R.fr1
        old := fun j t hj hlt => by
          simp only at hj hlt
          rw [List.getElem?_set] at hj
          split at hj
          · split at hj
            · obtain rfl := Option.some.inj hj; simp only; omega
            · simp at hj
          · exact R.old j t hj hlt
        new := fun j t hj hlt => by
          simp only at hj hlt
          rw [List.getElem?_set_ne (by omega)] at hj
          exact R.new j t hj hlt
        inl := fun j hj => by
          rcases List.mem_cons.1 hj with rfl | hj
          · exact ⟨_, set_at hs _, rfl, hkf, hw⟩
          · obtain ⟨t, h1, h2, h3, h4⟩ := R.inl j hj
            exact ⟨t, by simp only; rw [List.getElem?_set_ne (fun (e : k = j) => hkn (by rw [e]; exact hj))]; exact h1, h2, h3, h4⟩
        next := fun t ht' => by
          simp only [List.length_set] at ht' ⊢
          rcases mem_set ht' with q | rfl
          · exact R.next t q
          · simp only; omega
        tk := by
          simp only
          rw [List.countP_set hl.1, R.tk, hl.2, ht]
          have : 0 < A.sl.countP (·.taken) := List.countP_pos_iff.2 ⟨s, List.mem_of_getElem? hs, ht⟩
          simp; omega
        lo := by
          simp only
          rw [List.countP_set hl.1, R.lo, hl.2, ht]
          simp [hw] }

theorem tkLen (R : Rep A a) : A.taken = a.len := by
  rw [R.tk, AA.len, ← R.sl, List.countP_map]; rfl

theorem count3 (l : List Sl) : (l.length : Int) - l.countP (fun s => s.taken) - l.countP (fun s => !s.taken && s.use == 2147483648) = ((l.map Sl.u).countP fun s => !s.taken && s.use != 2147483648) := by
  induction l with
  | nil => rfl
  | cons s l ih =>
    rw [List.map_cons, List.countP_cons, List.countP_cons, List.countP_cons, List.length_cons]
    generalize List.countP (fun s => !s.taken && s.use != 2147483648) (l.map Sl.u) = c at ih ⊢
    generalize List.countP (fun s => !s.taken && s.use == 2147483648) l = b at ih ⊢
    generalize List.countP (fun s => s.taken) l = a at ih ⊢
    simp only [Sl.u, bne]
    by_cases ht : s.taken = true <;> by_cases h : (s.use == 2147483648) = true <;> simp [ht, h] <;> omega
theorem roomEq (R : Rep A a) : A.room = a.room := by
  rw [Ar.room, R.tk, R.lo, AA.room, ← R.sl]; exact count3 A.sl
end Rep
end Go.Proofs.Ytokmjjjedljcpaa
