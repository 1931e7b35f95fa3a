/- TrTw: texts for the statements of this seat: contracts of functions, walks, plain laws. Conditions: none. -/
import Derived.Deep.RegionLaw
import Derived.Lib.SliceRun
import Derived.Shelf.RegionOpenPlain
import Derived.Sort.WalkB12
import Derived.Test.YtfhlllmicobafaaTrClone
set_option linter.all false
/- slices.Delete of one event, of a slice that the call has made. -/
namespace Go.Proofs.Ytfhlllmicobafaa
open Go.RowKit
open Tr (Ev)
theorem setCells_obj {g e : Nat} : ∀ (vs : List Value) (o : Nat) (w : World) (cur : Array Value), w.heap[g]? = some (.cells cur e (0, 0)) → ∃ cur', (w.setCells g o vs).heap[g]? = some (.cells cur' e (0, 0)) ∧ cur'.size = cur.size
  | [], _, w, cur, h => ⟨cur, h, rfl⟩
  | v :: vs, o, w, cur, h => by
    have h1 : (w.setCell ⟨g, o, none⟩ v).heap[g]? = some (.cells (cur.setIfInBounds o v) e (0, 0)) := by
      simp [World.setCell, Array.getElem?_modify, h]
    obtain ⟨cur', h2, h3⟩ := setCells_obj vs (o + 1) _ _ h1
    exact ⟨cur', h2, by rw [h3]; simp⟩
theorem own_of_cells {w : World} {base e size g n c : Nat} {xs : List Value} {cur : Array Value} (hg : base ≤ g) (hh : w.heap[g]? = some (.cells cur e (0, 0))) (hn : n ≤ c) (hc : c ≤ maxLen) (hs : cur.size = c * size) (hx : xs.length = n * size)
    (h : ∀ j, j < n * size → w.cell? ⟨g, j, none⟩ = xs[j]?) : w.ownsRow base e size (.slice (some ⟨g, 0, none⟩) n c) n xs := by
  refine ⟨hx, .inr ⟨g, c, cur, rfl, hg, hh, hn, hc, hs, ?_⟩⟩
  apply List.ext_getElem?
  intro j
  by_cases hj : j < n * size
  · rw [List.getElem?_take_of_lt hj, ← h j hj]
    simp [World.cell?, hh]
  · rw [List.getElem?_eq_none (by rw [List.length_take]; omega), List.getElem?_eq_none (by omega)]
theorem ownsRow_capD {w : World} {base e n g c k : Nat} {xs : List Value} (h : w.ownsRow base e n (.slice (some ⟨g, 0, none⟩) k c) k xs) : k ≤ c ∧ c ≤ maxLen := by
  rcases h.2 with ⟨q, -⟩ | ⟨g', cap', cur, q, _, _, h1, h2, -⟩
  · cases q
  · injection q with _ _ e3; subst e3; exact ⟨h1, h2⟩
/-- clear of one struct. -/
theorem run_clear_one {P : Program} (w : World) (t e ty : TypeId) (z : Value) (ht : P.underlying t = some (.slice e)) (hv : ∀ w, (zeroValue e).run P w = .ok z w) (h1 : ∀ u ∈ z.cells.toList, u.oneCell' = true) (b o c : Nat)
    (hc : ∀ j, j < z.cells.size → (w.cell? ⟨b, o + j, none⟩).isSome = true) (hf : ∀ j, j < z.cells.size → w.frozen? ⟨b, o + j, none⟩ = false) :
    (Builtin.clear_ #[t] ty #[.slice (some ⟨b, o, none⟩) 1 c]).run P w = .ok (.tuple #[]) (w.setCells b o z.cells.toList) := by
  have hzc : (Builtin.zeroCells z.cells 1).toList = z.cells.toList := by
    simp [Builtin.zeroCells]
    apply List.ext_getElem
    · simp
    · intro i h1 h2
      have : i < z.cells.size := by simpa using h2
      simp [Nat.mod_eq_of_lt this, getElem!_pos z.cells i this]
  have hst := run_storeCells_cells (P := P) b o z.cells.toList 0 w (by simpa using hc) (by simpa using hf) h1
  simp only [Nat.add_zero] at hst
  simp [Builtin.clear_, run_underlying ht, hv, hzc, hst]
theorem cells_cut {xs : List Ev} (k : Nat) (hk : k < xs.length) : cellsL evC (xs.eraseIdx k) = (cellsL evC xs).take (k * 8) ++ cellsL evC (xs.drop (k + 1)) := by
  have h1 : (cellsL evC xs).take (k * 8) = cellsL evC (xs.take k) := by
    have e : cellsL evC xs = cellsL evC (xs.take k) ++ cellsL evC (xs.drop k) := by rw [← cellsL_append, List.take_append_drop]
    rw [e, List.take_left' (by rw [cellsL_length evC_len, List.length_take, Nat.min_eq_left (by omega)])]
  rw [h1, ← cellsL_append, List.eraseIdx_eq_take_drop_succ]
def ez : List Value := evC ⟨0, 0, 0, 0, 0, 0, 0, 0⟩
set_option maxRecDepth 100000 in
set_option maxHeartbeats 4000000 in
theorem delete58_c {W : World} {base g m c : Nat} {xs : List Ev} (k : Nat) (hown : W.ownsRow base 35 8 (.slice (some ⟨g, 0, none⟩) (m + 1) c) (m + 1) (cellsL evC xs)) (hx : xs.length = m + 1) (hk : k ≤ m) (hn : m ≤ 1000000) :
    Calls Try.prog 58 #[.slice (some ⟨g, 0, none⟩) (m + 1) c, .int .i64 (k : Nat), .int .i64 ((k + 1 : Nat) : Int)] W fun e W' => e = .returned (.slice (some ⟨g, 0, none⟩) m c) ∧ W'.ownsRow base 35 8 (.slice (some ⟨g, 0, none⟩) m c) m (cellsL evC (xs.eraseIdx k)) ∧ Kept (fun b => b = g) W W' := by
  obtain ⟨i0, z0, hi, hz, hsz, hby, hzs⟩ := el22.info
  have hcl := cellsL_length (f := evC) evC_len xs
  have hone := cellsL_all (f := evC) evC_one xs
  have hfz : ∀ j, W.frozen? ⟨g, j, none⟩ = false := fun j => ownsRow_frozen hown j
  have hcell : ∀ j, j < (m + 1) * 8 → W.cell? ⟨g, j, none⟩ = (cellsL evC xs)[j]? := fun j hj => hown.cellAt _ hj
  obtain ⟨hnc, hcm⟩ := ownsRow_capD hown
  obtain ⟨cur, hgb, hh, hcs⟩ : ∃ cur, base ≤ g ∧ W.heap[g]? = some (.cells cur 35 (0, 0)) ∧ cur.size = c * 8 := by
    rcases hown.2 with ⟨q, -⟩ | ⟨g', cap', cur, q, h0, h1, _, _, h4, -⟩
    · cases q
    · injection q with q1 _ q3
      injection q1 with q1
      injection q1 with q1
      subst q1 q3
      exact ⟨cur, h0, h1, h4⟩
  obtain ⟨news, hnews⟩ : ∃ news, news = cellsL evC (xs.drop (k + 1)) := ⟨_, rfl⟩
  have hnl : news.length = (m - k) * 8 := by rw [hnews, cellsL_length evC_len, List.length_drop, hx]; congr 1; omega
  have hng : ∀ t u, news[t]? = some u → (cellsL evC xs)[(k + 1) * 8 + t]? = some u := fun t u hu => by
    rw [hnews] at hu
    have e : cellsL evC xs = cellsL evC (xs.take (k + 1)) ++ cellsL evC (xs.drop (k + 1)) := by rw [← cellsL_append, List.take_append_drop]
    have e2 : (cellsL evC (xs.take (k + 1))).length = (k + 1) * 8 := by rw [cellsL_length evC_len, List.length_take, Nat.min_eq_left (by omega)]
    rw [e, List.getElem?_append_right (by omega), e2, Nat.add_sub_cancel_left]
    exact hu
  have hn1 : ∀ u ∈ news, u.oneCell' = true := fun u hu => cellsL_all (f := evC) evC_one _ u (hnews ▸ hu)
  have some_at : ∀ j, j < (m + 1) * 8 → (W.cell? ⟨g, j, none⟩).isSome = true := fun j hj => by rw [hcell j hj, List.getElem?_eq_getElem (by rw [hcl, hx]; exact hj)]; rfl
  -- the two worlds
  obtain ⟨W1, hW1⟩ : ∃ W1, W1 = W.drew.setCells g (0 + k * 8) news := ⟨_, rfl⟩
  obtain ⟨W2, hW2⟩ : ∃ W2, W2 = W1.setCells g (m * 8) ez := ⟨_, rfl⟩
  have d0 : ∀ j, W.drew.cell? ⟨g, j, none⟩ = W.cell? ⟨g, j, none⟩ := fun j => rfl
  have f1 : ∀ j, W1.frozen? ⟨g, j, none⟩ = false := fun j => by rw [hW1, World.frozen?_setCells]; exact hfz j
  have s1 : ∀ j, j < (m + 1) * 8 → (W1.cell? ⟨g, j, none⟩).isSome = true := fun j hj => by rw [hW1]; exact World.isSome_setCells g _ _ _ _ (some_at j hj)
  have c1 : ∀ j, j < m * 8 → W1.cell? ⟨g, j, none⟩ = (cellsL evC (xs.eraseIdx k))[j]? := fun j hj => by
    rw [cells_cut k (by omega), hW1]
    by_cases hj2 : j < k * 8
    · rw [World.cell?_setCells_out g news _ _ _ (fun _ _ => .inl (by show j < 0 + k * 8; omega)), List.getElem?_append_left (by rw [List.length_take, hcl]; omega), List.getElem?_take_of_lt hj2]
      exact hcell j (by omega)
    · obtain ⟨t, rfl⟩ : ∃ t, j = k * 8 + t := ⟨j - k * 8, by omega⟩
      have ht : t < news.length := by rw [hnl, Nat.sub_mul]; omega
      have hin := World.cell?_setCells_in g news (0 + k * 8) W.drew (fun j hj => some_at (0 + k * 8 + j) (by rw [hnl, Nat.sub_mul] at hj; omega)) t ht
      rw [Nat.zero_add] at hin
      rw [Nat.zero_add, hin, List.getElem?_append_right (by rw [List.length_take, hcl]; omega), List.length_take, Nat.min_eq_left (by rw [hcl, hx]; omega), Nat.add_sub_cancel_left, ← hnews, List.getElem?_eq_getElem ht]
  have HOWN : Hid (W2.ownsRow base 35 8 (.slice (some ⟨g, 0, none⟩) m c) m (cellsL evC (xs.eraseIdx k))) := Lib.hid (by
    obtain ⟨cur1, q1, q2⟩ := setCells_obj news (0 + k * 8) W.drew cur hh
    rw [← hW1] at q1
    obtain ⟨cur2, q3, q4⟩ := setCells_obj ez (m * 8) W1 cur1 q1
    rw [← hW2] at q3
    refine own_of_cells hgb q3 (by omega) hcm (by rw [q4, q2, hcs]) (by rw [cellsL_length evC_len, List.length_eraseIdx_of_lt (by omega), hx]; rfl) fun j hj => ?_
    rw [hW2, World.cell?_setCells_out g ez _ _ _ (fun _ _ => .inl hj)]
    exact c1 j hj)
  have HKW : Hid (Kept (fun b => b = g) W W2) := Lib.hid (by
    rw [hW2, hW1]
    exact (((Kept.refl (fun b => b = g) W).drew).setCells g _ (fun _ => rfl) _).setCells g _ (fun _ => rfl) _)
  have HCLR : ∀ ty, (Builtin.clear_ #[22] ty #[.slice (some ⟨g, m * 8, none⟩) 1 (c - m)]).run Try.prog W1 = .ok (.tuple #[]) W2 := fun ty => by
    rw [hW2]
    exact run_clear_one W1 22 35 ty (.agg #[.int .i64 0, .int .i64 0, .int .i64 0, .int .i64 0, .int .i64 0, .int .i64 0, .int .i64 0, .int .i64 0]) Try.underlying22 Try.zeroValue35 (by simp [Value.cells, Value.oneCell']) g (m * 8) (c - m) (fun j hj => s1 _ (by have : j < 8 := hj; omega)) (fun j _ => f1 _)
  have S1 := Lib.hid hnl
  have S2 := Lib.hid hn1
  have S3 : Hid (∀ t, t < news.length → (W.drew.cell? ⟨g, 0 + k * 8 + t, none⟩).isSome = true ∧ W.drew.frozen? ⟨g, 0 + k * 8 + t, none⟩ = false) := Lib.hid fun t ht => ⟨some_at (0 + k * 8 + t) (by rw [hnl, Nat.sub_mul] at ht; omega), hfz _⟩
  have S4 : Hid (∀ t u, news[t]? = some u → W.drew.cell? ((⟨g, (k + 1) * 8, none⟩ : Addr).add t) = some u) := Lib.hid fun t u hu => by
    have := hng t u hu
    have h2 := (List.getElem?_eq_some_iff.1 this).1
    rw [Addr.add_mid]
    exact (hcell _ (by rw [hcl, hx] at h2; exact h2)).trans this
  have hW := Lib.hid hW1
  have k1 : (0 : Int) ≤ (k : Int) := by omega
  have k2 : ((k + 1 : Nat) : Int) ≤ ((m + 1 : Nat) : Int) := by omega
  have k3 : ((m + 1 : Nat) : Int) ≤ (c : Int) := by omega
  have k4 : (k : Int) ≤ (c : Int) := by omega
  have k5 : ¬ (k : Int) = ((k + 1 : Nat) : Int) := by omega
  clear hone hfz hcell hng hnl hcl hown hh hcs hgb hnews hn1 some_at hW1 hW2 d0 f1 s1 c1 hx
  have k6 : (0 : Int) ≤ (k : Int) + 1 := by omega
  have k7 : (k : Int) + 1 ≤ (m : Int) + 1 := by omega
  have mixed : Try.prog.follows .mixedOrders = true := by kernel_rfl
  have hkm : k + (m - k) = m := by omega
  have k8 : ¬ c = m := by omega
  have k9 : (m : Int) ≤ (m : Int) + 1 := by omega
  have S5 : Hid (c = k + 1 → ∀ t u, news[t]? = some u → W.drew.cell? ((⟨g, 0, none⟩ : Addr).add t) = some u) := Lib.hid fun q t u hu => by
    have h1 := S1.out
    rw [show m - k = 0 by omega, Nat.zero_mul] at h1
    rw [List.eq_nil_of_length_eq_zero h1] at hu
    cases hu
  by_cases hck : c = k + 1
  · have e : m = k := by omega
    subst e
    subst hck
    simp only [Nat.add_sub_cancel_left] at HCLR
    have S6 := S5.out rfl
    have S7 := Lib.hid S6
    clear S6
    go_enter Try.func58, Try.ntmps58
    go_wp2_with fail
    go_region_law_o (refine step_append_room rfl (.tmp 22) (.tmp 25) 22 rfl 35 i0 8 Try.underlying22 hi hsz g 0 m (m + 1) (by simp [Act.eval, Act.put]) ⟨g, 0, none⟩ 0 0 news (by simp [Act.eval, Act.put]) (by have := S1.out; rwa [Nat.sub_self] at this) S7.out S2.out (by omega) S3.out ?_; rw [← hW.out])
    go_wp2
    go_ret
    exact ⟨rfl, HOWN.out, HKW.out⟩
  · have hck2 := hck
    go_enter Try.func58, Try.ntmps58
    go_wp2_with fail
    go_region_law_o (refine step_append_room rfl (.tmp 22) (.tmp 25) 22 rfl 35 i0 8 Try.underlying22 hi hsz g 0 k c (by simp [Act.eval, Act.put]) ⟨g, (k + 1) * 8, none⟩ (m - k) (c - (k + 1)) news (by simp [Act.eval, Act.put, hck]) S1.out S4.out S2.out (by omega) S3.out ?_; rw [← hW.out])
    go_wp2
    go_ret
    exact ⟨rfl, HOWN.out, HKW.out⟩
end Go.Proofs.Ytfhlllmicobafaa
/- Two rows of events that a call makes side by side. -/
namespace Go.Proofs.Ytfhlllmicobafaa
open Go.RowKit
open Tr (Ev)
structure Two (w wk : World) (vo vu : Value) (xo xu : List Ev) : Prop where
  o : wk.ownsRow w.heap.size 35 8 vo xo.length (cellsL evC xo)
  u : wk.ownsRow w.heap.size 35 8 vu xu.length (cellsL evC xu)
  ap : ∀ b, vo.ownBlock = some b → ¬ vu.ownBlock = some b
  kept : Kept (fun _ => False) w wk
theorem Two.start (w : World) : Two w w (.slice none 0 0) (.slice none 0 0) [] [] := ⟨⟨rfl, .inl ⟨rfl, rfl⟩⟩, ⟨rfl, .inl ⟨rfl, rfl⟩⟩, fun b q => by simp [Value.ownBlock] at q, Kept.refl _ _⟩
theorem Two.move {w wk w2 : World} {vo vu : Value} {xo xu : List Ev} (h : Two w wk vo vu xo xu) (K : Kept (fun _ => False) wk w2) : Two w w2 vo vu xo xu :=
  ⟨ownsRow_kept h.o K (fun _ _ _ h => h), ownsRow_kept h.u K (fun _ _ _ h => h), h.ap, h.kept.trans K (fun _ _ h => h)⟩
theorem Two.swap {w wk : World} {vo vu : Value} {xo xu : List Ev} (h : Two w wk vo vu xo xu) : Two w wk vu vo xu xo := ⟨h.u, h.o, fun b q r => h.ap b r q, h.kept⟩
theorem Two.size {w wk : World} {vo vu : Value} {xo xu : List Ev} (h : Two w wk vo vu xo xu) : w.heap.size ≤ wk.heap.size := h.kept.size
/-- The first row has turned into another; the second stays. -/
theorem Two.turn {w wk w2 : World} {vo vu vn : Value} {xo xu xn : List Ev} (h : Two w wk vo vu xo xu) (own : w2.ownsRow w.heap.size 35 8 vn xn.length (cellsL evC xn)) (K : Kept (fun b => vo.ownBlock = some b) wk w2) (hor : ∀ b, vn.ownBlock = some b → vo.ownBlock = some b ∨ wk.heap.size ≤ b) : Two w w2 vn vu xn xu where
  o := own
  u := ownsRow_kept h.u K (fun b _ q r => h.ap b r q)
  ap := fun b q r => by
    rcases hor b q with q2 | q2
    · exact h.ap b q2 r
    · have := (ownsRow_block h.u r).2; omega
  kept := h.kept.trans K fun b hb q => by have := (ownsRow_block h.o q).1; omega
/-- One more in the first row. -/
theorem Two.snoc {w wk w2 : World} {vo vu : Value} {xo xu : List Ev} {x : Ev} {n g c : Nat} (h : Two w wk vo vu xo xu) (hn : xo.length = n) (own : w2.ownsRow w.heap.size 35 8 (.slice (some ⟨g, 0, none⟩) (n + 1) c) (n + 1) (cellsL evC xo ++ evC x)) (K : Kept (fun b => vo.ownBlock = some b) wk w2) (hor : vo.ownBlock = some g ∨ wk.heap.size ≤ g) : Two w w2 (.slice (some ⟨g, 0, none⟩) (n + 1) c) vu (xo ++ [x]) xu := by
  refine h.turn ?_ K fun b q => ?_
  · rw [cellsL_append, cellsL_one, List.length_append, List.length_singleton, hn]
    exact own
  · simp only [Value.ownBlock, Option.some.injEq] at q
    subst q
    exact hor
end Go.Proofs.Ytfhlllmicobafaa
