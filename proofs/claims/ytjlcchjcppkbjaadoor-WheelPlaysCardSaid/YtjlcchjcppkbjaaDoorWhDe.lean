/- WhDe: texts for the statements of this seat: contracts of functions, walks, plain laws. Conditions: none. -/
import Derived.LaidEqlPtr
import Derived.Test.YtjlcchjcppkbjaaDoorWhList
set_option linter.all false
/- slices.DeleteFunc at pointers: the one pointer is struck. -/
namespace Go.Proofs.YtjlcchjcppkbjaaDoor
open Go.RowKit Go.Shelf Go.Sort
theorem eg48 : ∀ args w, (callFunc 48 args).run Tryd.prog w = .ok (.enter 48 args) w := enters_of Tryd.func48 (by kernel_rfl) rfl
theorem zero90 : ∀ w, (zeroValue 90).run Tryd.prog w = .ok (encB none) w := Tryd.zeroValue90
theorem eql90_same (w : World) (a : Addr) : (binOp .eql 90 (.pointer (some a)) (.pointer (some a))).run Tryd.prog w = .ok (.bool true) w :=
  let ⟨_, h⟩ := Option.isSome_iff_exists.1 (show (Tryd.prog.info? 92).isSome = true by kernel_rfl)
  run_eql_ptr_same w a Tryd.underlying90 h
theorem eql90_other (w : World) {b c : Nat} (hne : b ≠ c) (hb : Blk w b) (hc : Blk w c) : (binOp .eql 90 (.pointer (some ⟨b, 0, none⟩)) (.pointer (some ⟨c, 0, none⟩))).run Tryd.prog w = .ok (.bool false) w := by
  obtain ⟨j, hj⟩ := Option.isSome_iff_exists.1 (show ((Tryd.prog.info? 92).map (·.size)).isSome = true by kernel_rfl)
  have hs : (Tryd.prog.info? 92).map (·.size) = some 6 := by kernel_rfl
  obtain ⟨i, hi, hi2⟩ := Option.map_eq_some_iff.1 hs
  obtain ⟨cb, tb, hb⟩ := hb
  obtain ⟨cc, tc, hc⟩ := hc
  exact run_eql_ptr_other w Tryd.underlying90 hi (by rw [hi2]; decide) (fun e => hne (by injection e)) hb hc
theorem eql90_nil (w : World) (a : Addr) : (binOp .eql 90 (.pointer none) (.pointer (some a))).run Tryd.prog w = .ok (.bool false) w := by
  have h : ∀ d : Nat, (Op.equalIn (d + 1) 90 (.pointer none) (.pointer (some a))).run Tryd.prog w = .ok false w := fun d => by
    simp [Op.equalIn, run_underlying Tryd.underlying90]
  simp only [binOp]
  simp [Op.equal, Op.maxDepth, h 9999]
/-- The pointers that the function is asked about. -/
abbrev PtB (w : World) (blk : Nat) : Type := {x : Option Nat // ∀ b, x = some b → Blk w b ∧ b ≠ blk}
instance {w : World} {blk : Nat} : Inhabited (PtB w blk) := ⟨⟨none, fun b h => by cases h⟩⟩
def encQ {w : World} {blk : Nat} (x : PtB w blk) : Value := encB x.1
theorem encQ_one {w : World} {blk : Nat} : OneCell (encQ (w := w) (blk := blk)) := fun x => by
  obtain ⟨x, hx⟩ := x
  cases x <;> rfl
theorem other_nil (B X : Nat) (w : World) (hc : w.cell? ⟨X, 0, none⟩ = some (.pointer (some ⟨B, 0, none⟩))) :
    Calls Tryd.prog 48 #[.pointer none, .pointer (some ⟨X, 0, none⟩)] w fun e w' => e = .returned (.bool false) ∧ w' = w := by
  have hx : X < w.heap.size := World.block_lt_of_cell? _ _ hc
  have he := eql90_nil w ⟨B, 0, none⟩
  go_enter Tryd.func48, Tryd.ntmps48
  go_wp2
  go_ret
  exact ⟨rfl, rfl⟩
theorem other_same (B X : Nat) (w : World) (hc : w.cell? ⟨X, 0, none⟩ = some (.pointer (some ⟨B, 0, none⟩))) :
    Calls Tryd.prog 48 #[.pointer (some ⟨B, 0, none⟩), .pointer (some ⟨X, 0, none⟩)] w fun e w' => e = .returned (.bool true) ∧ w' = w := by
  have hx : X < w.heap.size := World.block_lt_of_cell? _ _ hc
  have he := eql90_same w ⟨B, 0, none⟩
  go_enter Tryd.func48, Tryd.ntmps48
  go_wp2
  go_ret
  exact ⟨rfl, rfl⟩
theorem other_other (b B X : Nat) (w : World) (hne : b ≠ B) (hb : Blk w b) (hB : Blk w B) (hc : w.cell? ⟨X, 0, none⟩ = some (.pointer (some ⟨B, 0, none⟩))) :
    Calls Tryd.prog 48 #[.pointer (some ⟨b, 0, none⟩), .pointer (some ⟨X, 0, none⟩)] w fun e w' => e = .returned (.bool false) ∧ w' = w := by
  have hx : X < w.heap.size := World.block_lt_of_cell? _ _ hc
  have he := eql90_other w hne hb hB
  clear hne hb hB
  go_enter Tryd.func48, Tryd.ntmps48
  go_wp2
  go_ret
  exact ⟨rfl, rfl⟩
def hitB (B : Nat) {w : World} {blk : Nat} (x : PtB w blk) : Bool := decide (x.1 = some B)
theorem other_c {w : World} {blk B X : Nat} (hB : Blk w B) (hBb : B ≠ blk) (hX : X ≠ blk) (hc : w.cell? ⟨X, 0, none⟩ = some (.pointer (some ⟨B, 0, none⟩))) {W : World} (K : Kept (fun b => b = blk) w W) (x : PtB w blk) :
    FnGives Tryd.prog 48 #[.pointer (some ⟨X, 0, none⟩)] #[encQ x] (.bool (hitB B x)) W := by
  have hx : X < w.heap.size := World.block_lt_of_cell? _ _ hc
  have hc' := (K.cell (a := ⟨X, 0, none⟩) hx hX).trans hc
  have hB' := hB.kept K hBb
  obtain ⟨x, hxx⟩ := x
  unfold FnGives
  cases x with
  | none => exact (other_nil B X W hc').mono fun e w' h => ⟨h.1, 0, h.2⟩
  | some b =>
    obtain ⟨h1, h2⟩ := hxx b rfl
    by_cases e : b = B
    · subst e
      have hd : hitB b (⟨some b, hxx⟩ : PtB w blk) = true := by unfold hitB; simp
      rw [hd]
      exact (other_same b X W hc').mono fun e w' h => ⟨h.1, 0, h.2⟩
    · have hd : hitB B (⟨some b, hxx⟩ : PtB w blk) = false := by unfold hitB; simpa using e
      rw [hd]
      exact (other_other b B X W e (h1.kept K h2) hB' hc').mono fun e w' h => ⟨h.1, 0, h.2⟩
end Go.Proofs.YtjlcchjcppkbjaaDoor
/- slices.DeleteFunc at pointers: the contract. -/
namespace Go.Proofs.YtjlcchjcppkbjaaDoor
open Go.RowKit Go.Shelf Go.Sort
/-- The list without what lies in block B. -/
def strikeB (B : Nat) (l : List Pt) : List Pt := l.filter fun u => decide (u.b ≠ B)
def liftB {w : World} {g : Nat} (l : List Pt) (h : ∀ u ∈ l, Blk w u.b ∧ u.b ≠ g) : List (PtB w g) := l.attach.map fun u => ⟨some u.1.b, fun b e => by injection e with e; subst e; exact h u.1 u.2⟩
theorem liftB_val {w : World} {g : Nat} (l : List Pt) (h : ∀ u ∈ l, Blk w u.b ∧ u.b ≠ g) : (liftB l h).map Subtype.val = l.map fun u => some u.b := by
  unfold liftB
  rw [List.map_map]
  have : l.attach.map ((fun x : PtB w g => x.1) ∘ fun u : {u // u ∈ l} => (⟨some u.1.b, fun b e => by injection e with e; subst e; exact h u.1 u.2⟩ : PtB w g)) = l.attach.map fun u => some u.1.b := rfl
  rw [show (Subtype.val ∘ fun u : {u // u ∈ l} => (⟨some u.1.b, fun b e => by injection e with e; subst e; exact h u.1 u.2⟩ : PtB w g)) = fun u => some u.1.b from rfl]
  simp
theorem filterB {w : World} {g B : Nat} : ∀ {l : List Pt} {L : List (PtB w g)}, L.map Subtype.val = l.map (fun u => some u.b) → (L.filter fun x => !hitB B x).map Subtype.val = (strikeB B l).map fun u => some u.b
  | [], L, h => by
    have : L = [] := List.map_eq_nil_iff.1 h
    subst this; rfl
  | u :: l, [], h => by simp at h
  | u :: l, x :: L, h => by
    simp only [List.map_cons, List.cons.injEq] at h
    have ih := filterB (B := B) h.2
    unfold strikeB at ih ⊢
    rw [List.filter_cons, List.filter_cons]
    by_cases e : u.b = B
    · have h1 : hitB B x = true := by unfold hitB; rw [h.1, e]; simp
      simp only [h1, e, ne_eq, not_true_eq_false, decide_false, Bool.not_true]
      rw [if_neg (by simp), if_neg (by simp)]
      simp only [ne_eq] at ih
      exact ih
    · have h1 : hitB B x = false := by unfold hitB; rw [h.1]; simpa using e
      simp only [h1, e, ne_eq, not_false_eq_true, decide_true, Bool.not_false, if_true, List.map_cons, h.1]
      simp only [ne_eq] at ih
      rw [ih]
def DelPost (w : World) (base : Nat) (v : Value) (q : List Pt) (e : Ending) (w' : World) : Prop := ∃ v', e = .returned v' ∧ w'.ownsRow base 90 1 v' q.length (q.map ptr) ∧ (∀ b, v'.ownBlock = some b → v.ownBlock = some b) ∧ Kept (fun b => v.ownBlock = some b) w w'
theorem delP_c {w : World} {base X : Nat} {v : Value} {l : List Pt} {t : Pt} (hown : w.ownsRow base 90 1 v l.length (l.map ptr)) (hl : l.length ≤ 1000000) (hne : l ≠ []) (hk : ∀ u ∈ l, Blk w u.b ∧ v.ownBlock ≠ some u.b) (hB : Blk w t.b) (hBb : v.ownBlock ≠ some t.b)
    (hX : w.cell? ⟨X, 0, none⟩ = some (.pointer (some ⟨t.b, 0, none⟩))) (hXb : v.ownBlock ≠ some X) :
    Calls Tryd.prog 49 #[v, .func (.func 48) #[] #[.pointer (some ⟨X, 0, none⟩)]] w (DelPost w base v (strikeB t.b l)) := by
  have hpos : 0 < l.length := List.length_pos_iff.2 hne
  rcases hown.2 with ⟨rfl, h0⟩ | ⟨g, cap, cur, rfl, hg, hh, h1, h2, h3, h4⟩
  · omega
  have hbl : g < w.heap.size := (Array.getElem?_eq_some_iff.1 hh).1
  have hk' : ∀ u ∈ l, Blk w u.b ∧ u.b ≠ g := fun u hu => ⟨(hk u hu).1, fun e => (hk u hu).2 (by rw [e]; rfl)⟩
  have hBg : t.b ≠ g := fun e => hBb (by rw [e]; rfl)
  have hXg : X ≠ g := fun e => hXb (by rw [e]; rfl)
  have hLv := liftB_val l hk'
  obtain ⟨L, hL⟩ : ∃ L, liftB l hk' = L := ⟨_, rfl⟩
  rw [hL] at hLv
  have hll : L.length = l.length := by have := congrArg List.length hLv; simpa using this
  have hsz : L.toArray.size = l.length := by simp [hll]
  have hget : ∀ (j : Nat) (u : Pt), l[j]? = some u → ∃ x : PtB w g, L[j]? = some x ∧ encQ x = ptr u := fun j u hj => by
    have := congrArg (fun m : List (Option Nat) => m[j]?) hLv
    simp only [List.getElem?_map, hj, Option.map_some] at this
    obtain ⟨x, hx, hx2⟩ := Option.map_eq_some_iff.1 this
    refine ⟨x, hx, ?_⟩
    unfold encQ
    rw [hx2]; rfl
  have hH : Holds encQ w g 0 L.toArray := by
    intro j hj
    have hj' : j < l.length := by rw [hsz] at hj; exact hj
    obtain ⟨x, hx, hx2⟩ := hget j l[j] (List.getElem?_eq_getElem hj')
    refine ⟨?_, hown.frozenAt _⟩
    rw [Nat.zero_add, hown.cellAt j (by omega), List.getElem?_map, List.getElem?_eq_getElem hj', Option.map_some, ← hx2, getElem!_pos _ j hj]
    congr 2
    have := (List.getElem?_eq_some_iff.1 hx).2
    simpa using this.symm
  have hpA : PredAt Tryd.prog 48 #[.pointer (some ⟨X, 0, none⟩)] encQ (hitB (w := w) (blk := g) t.b) w := fun W x K => by
    exact other_c hB hBg hXg hX (W := W) ⟨K.os, K.tape, K.output, K.size, fun k hk _ => K.block k hk⟩ x
  have hpO : PredOver Tryd.prog 48 #[.pointer (some ⟨X, 0, none⟩)] encQ (hitB (w := w) (blk := g) t.b) g 0 L.toArray.size w := fun n os dk x hdk => by
    have K := Kept.of_grown (grown_sortP (enc := encQ (w := w) (blk := g)) (w := w) (g := g) (off := 0) (n := n) (os := os) dk)
    exact other_c hB hBg hXg hX (K.mono fun b _ h => by injection h with h; exact h.symm) x
  have hc := AnyE.slices_DeleteFunc Tryd.delP encQ encQ_one (hitB t.b) 48 #[.pointer (some ⟨X, 0, none⟩)] eg48 (⟨none, fun b h => by cases h⟩ : PtB w g) zero90 g 0 cap L.toArray w hpA hpO hH (by rw [hsz]; omega) (by rw [hsz]; exact h1)
  rw [hsz] at hc
  refine Calls.mono hc ?_
  have hfv := filterB (B := t.b) hLv
  have htl : L.toArray.toList = L := rfl
  rw [htl] at hc ⊢
  obtain ⟨F, hF⟩ : ∃ F, (L.filter fun x => !hitB t.b x) = F := ⟨_, rfl⟩
  rw [hF] at hfv ⊢
  have hFl : F.length = (strikeB t.b l).length := by have := congrArg List.length hfv; simpa using this
  have hFle : F.length ≤ l.length := by rw [← hF, ← hll]; exact List.length_filter_le _ _
  rintro e w' ⟨rfl, q, rfl⟩
  have hheap : (putRow encQ (Sort.ahead w q) g 0 (F ++ List.replicate (l.length - F.length) (⟨none, fun b h => by cases h⟩ : PtB w g)).toArray).heap[g]? = some (.cells (putCells encQ 0 (F ++ List.replicate (l.length - F.length) (⟨none, fun b h => by cases h⟩ : PtB w g)).toArray cur) 90 (0, 0)) := by
    unfold putRow mapBlock
    simp only [Array.getElem?_modify, if_true]
    show Option.map _ (w.heap[g]?) = _
    rw [hh]; rfl
  refine ⟨_, rfl, ?_, fun b h => h, ?_⟩
  · rw [← hFl]
    refine ⟨by rw [List.length_map, hFl]; omega, .inr ⟨g, cap, _, rfl, hg, hheap, by omega, h2, ?_, ?_⟩⟩
    · unfold putCells; simpa using h3
    · apply List.ext_getElem?
      intro k
      rw [Nat.mul_one, List.getElem?_map]
      by_cases hkF : k < F.length
      · rw [List.getElem?_take_of_lt hkF]
        have hks : k < (strikeB t.b l).length := by omega
        have hkc : k < cur.size := by omega
        rw [List.getElem?_eq_getElem hks, Option.map_some]
        have hv := congrArg (fun m : List (Option Nat) => m[k]?) hfv
        simp only [List.getElem?_map, List.getElem?_eq_getElem hkF, List.getElem?_eq_getElem hks, Option.map_some, Option.some.injEq] at hv
        unfold putCells
        rw [Array.getElem?_toList, Array.getElem?_mapIdx, Array.getElem?_eq_getElem hkc, Option.map_some]
        have hkd : k < (F ++ List.replicate (l.length - F.length) (⟨none, fun b h => by cases h⟩ : PtB w g)).toArray.size := by simp; omega
        rw [if_pos ⟨Nat.zero_le _, by simp; omega⟩, Nat.sub_zero, getElem!_pos _ k hkd]
        simp only [List.getElem_toArray, Option.some.injEq]
        rw [List.getElem_append_left hkF]
        unfold encQ
        rw [hv]; rfl
      · rw [List.getElem?_eq_none (by simp; omega), List.getElem?_eq_none (by omega)]
        rfl
  · refine ⟨rfl, rfl, rfl, by simp [Sort.ahead], fun k hk hn => ?_⟩
    have : g ≠ k := fun e => hn (by rw [e]; rfl)
    simp [putRow, mapBlock, Sort.ahead, Array.getElem?_modify, this]
end Go.Proofs.YtjlcchjcppkbjaaDoor
