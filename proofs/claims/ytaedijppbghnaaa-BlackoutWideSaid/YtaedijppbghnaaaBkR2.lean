/- The reference's add. -/
import Derived.Test.YtaedijppbghnaaaBkR1
import Derived.Test.YtaedijppbghnaaaGeAppN
namespace Go.Proofs.Ytaedijppbghnaaa
open Go.RowKit
open Bk (Sp ins)

theorem ins_at (t : Int) : ∀ (l : List Int) (k : Nat), k ≤ l.length → (∀ i x, i < k → l[i]? = some x → x < t) → (∀ x, l[k]? = some x → ¬ x < t) → ins t l = if l[k]? = some t then l else l.take k ++ t :: l.drop k
  | [], k, hk, _, _ => by
    simp at hk
    subst hk
    rfl
  | x :: r, 0, _, _, h2 => by
    have := h2 x rfl
    rw [ins, if_neg this]
    by_cases e : x = t
    · rw [if_pos e, if_pos (by simp [e])]
    · rw [if_neg e, if_neg (by simpa using e)]; rfl
  | x :: r, k + 1, hk, h1, h2 => by
    have hx := h1 0 x (by omega) rfl
    have ih := ins_at t r k (by simpa using hk) (fun i y hi hy => h1 (i + 1) y (by omega) (by simpa using hy)) (fun y hy => h2 y (by simpa using hy))
    rw [ins, if_pos hx, ih]
    simp only [List.getElem?_cons_succ, List.take_succ_cons, List.drop_succ_cons]
    split <;> rfl

/-- A slice of numbers that is nil or has room told. -/
def IntsN (w : World) (v : Value) (xs : List Int) : Prop :=
  (v = .slice none 0 0 ∧ xs = []) ∨ ∃ b off cap, v = .slice (some ⟨b, off, none⟩) xs.length cap ∧ (xs.length ≤ cap ∧ cap ≤ maxLen) ∧ b < w.heap.size ∧ w.rangeAt b off (xs.map (Value.int .i64))
theorem IntsN.kept {S : Nat → Prop} {w w' : World} {v : Value} {xs : List Int} (h : IntsN w v xs) (K : Kept S w w') (hS : ∀ b, v.ownBlock = some b → ¬ S b) : IntsN w' v xs := by
  rcases h with h | ⟨b, off, cap, rfl, hc, hb, hr⟩
  · exact .inl h
  · exact .inr ⟨b, off, cap, rfl, hc, Nat.lt_of_lt_of_le hb K.size, fun j x hx => (K.cell (a := ⟨b, off + j, none⟩) hb (hS b rfl)).trans (hr j x hx)⟩
theorem IntsN.same {w w' : World} {v : Value} {xs : List Int} (h : IntsN w v xs) (K : Kept (fun _ => False) w w') : IntsN w' v xs := h.kept K (fun _ _ h => h)
theorem IntsN.of_own {w : World} {base e : Nat} {v : Value} {xs : List Int} (h : w.ownsRow base e 1 v xs.length (xs.map (Value.int .i64))) : IntsN w v xs := by
  rcases h.2 with ⟨rfl, h0⟩ | ⟨g, cap, cur, rfl, hg, hh, hcap, hcm, -⟩
  · exact .inl ⟨rfl, List.eq_nil_of_length_eq_zero h0⟩
  · refine .inr ⟨g, 0, cap, rfl, ⟨hcap, hcm⟩, (Array.getElem?_eq_some_iff.1 hh).1, fun j x hx => ?_⟩
    have hj := (List.getElem?_eq_some_iff.1 hx).1
    simp at hj
    rw [Nat.zero_add, h.cellAt j (by omega)]
    exact hx
theorem info2q : (Try.prog.info? 2).map (fun i => (i.zero, i.size, i.bytes)) = some (some (.int .i64 0), 1, 8) := by kernel_rfl
theorem el28 : ElemOk Try.prog 28 2 1 8 := .mk' Try.underlying28 info2q rfl (by decide)

def AddPost (v : Value) (l : List Int) (t : Int) (w : World) (e : Ending) (w' : World) : Prop :=
  ∃ v', e = .returned v' ∧ IntsN w' v' (ins t l) ∧ (∀ c, v'.ownBlock = some c → w.heap.size ≤ c ∨ v.ownBlock = some c) ∧ Kept (fun _ => False) w w'
def AS (w wk : World) (v : Value) (n : Nat) (xs : List Value) : Prop := wk.ownsRow w.heap.size 2 1 v n xs ∧ w.heap.size ≤ wk.heap.size ∧ Kept (fun _ => False) w wk
theorem AS.step {w w1 w2 : World} {v1 v2 : Value} {n1 n2 : Nat} {x1 x2 : List Value} (h : AS w w1 v1 n1 x1) (h2 : w2.ownsRow w.heap.size 2 1 v2 n2 x2) (K : Kept (fun b => v1.ownBlock = some b) w1 w2) : AS w w2 v2 n2 x2 :=
  ⟨h2, Nat.le_trans h.2.1 K.size, h.2.2.trans K fun i hi hv => by have := (ownsRow_block h.1 hv).1; omega⟩
theorem AS.start (w : World) : AS w w (.slice none 0 0) 0 [] := ⟨⟨rfl, .inl ⟨rfl, rfl⟩⟩, Nat.le_refl _, Kept.refl _ _⟩
theorem ints_one (l : List Int) : ∀ u ∈ l.map (Value.int .i64), u.oneCell' = true := by
  intro u hu
  obtain ⟨x, -, rfl⟩ := List.mem_map.1 hu
  rfl
theorem AS.fin {w wk : World} {v v0 : Value} {n : Nat} {l : List Int} {t : Int} {xs : List Value} (h : AS w wk v n xs) (hx : xs = (ins t l).map (Value.int .i64)) (hn : n = (ins t l).length) : AddPost v0 l t w (.returned v) wk := by
  subst hx hn
  refine ⟨v, rfl, IntsN.of_own h.1, fun c hc => .inl (ownsRow_block h.1 hc).1, h.2.2⟩
theorem wpList_appNilO {t e size bytes : Nat} (E : ElemOk Try.prog t e size bytes) {ops : Array Oper} {rest : List Oper} {o : Oper} {a : Act} {Q : Exit → Act → World → Prop} (hgd : o.guard = none) (s x : Operand)
    (ho : o.op = .call { callee := .builtin .append, args := #[s, x], argTypes := #[t, t] }) {W : World} (v : Value) (hs : a.eval s = v)
    (hx : a.eval x = .slice none 0 0) (hown : W.ownsRow W.heap.size e size v 0 [] ∧ W.heap.size ≤ W.heap.size ∧ Kept (fun _ => False) W W) (h : ∀ v', W.ownsRow W.heap.size e size v' 0 [] ∧ W.heap.size ≤ W.heap.size ∧ Kept (fun _ => False) W W → wpList Try.prog ops Q rest (a.put o.dst v') W) : wpList Try.prog ops Q (o :: rest) a W :=
  wpList_appNil E hgd s x ho W.heap.size v 0 [] hs hown.1 hx (h v hown)
set_option maxRecDepth 20000 in
theorem add_nil (w : World) (t : Int) : Calls Try.prog 58 #[.slice none 0 0, .int .i64 t] w (AddPost (.slice none 0 0) [] t w) := by
  have HO := Lib.hid (AS.start w)
  go_enter Try.func58, Try.ntmps58
  go_wp2
  go_loopw [5] (fun i wr => i = .int .i64 0 ∧ wr = w) (fun _ _ => 0)
  case atStart => exact ⟨rfl, rfl⟩
  case round =>
    obtain ⟨rfl, rfl⟩ := hrel
    go_wp2_with (at_builtin; go_loud (first | (refine wpList_appNilO el28 rfl (.tmp 34) (.tmp 37) rfl (.slice none 0 0) rfl rfl (AS.start _) ?_; rintro v1 h1; have HO1 : Hid (AS wr wr v1 0 []) := Lib.hid h1; clear h1) | (refine wpList_app2 el28 rfl (.tmp 39) (.tmp 41) rfl wr.heap.size v1 0 [] rfl HO1.out.1 rfl rfl (ints_one [t]) (by unfold maxLen; omega) (by omega) (Nat.le_refl _) ?_; rintro g2 c2 w2 hown2 K2 -; have HO2 := Lib.hid (HO1.out.step hown2 K2); clear hown2 K2) | (refine wpList_appNil el28 rfl (.tmp 43) (.tmp 46) rfl wr.heap.size (.slice (some ⟨g2, 0, none⟩) 1 c2) 1 [.int .i64 t] rfl HO2.out.1 rfl ?_)))
    go_ret
    exact HO2.out.fin rfl rfl
theorem map_mid (l : List Int) (k : Nat) (t : Int) : (l.take k).map (Value.int .i64) ++ [.int .i64 t] ++ (l.drop k).map (Value.int .i64) = (l.take k ++ t :: l.drop k).map (Value.int .i64) := by simp
set_option maxHeartbeats 1000000 in
theorem add_pos {w : World} {b off cap : Nat} {l : List Int} (t : Int) (hc : l.length ≤ cap) (hb : b < w.heap.size) (hr : w.rangeAt b off (l.map (Value.int .i64))) (hl : l.length ≤ 1000) (hcap : cap ≤ maxLen) (hs : l.Pairwise (· < ·)) :
    Calls Try.prog 58 #[.slice (some ⟨b, off, none⟩) l.length cap, .int .i64 t] w (AddPost (.slice (some ⟨b, off, none⟩) l.length cap) l t w) := by
  have HO := Lib.hid (AS.start w)
  have hcells : ∀ j x, l[j]? = some x → w.cell? ⟨b, off + j, none⟩ = some (.int .i64 x) := fun j x hx => hr j _ (by rw [List.getElem?_map, hx]; rfl)
  have HC := Lib.hid hcells
  have HS := Lib.hid hs
  have hsame : AddPost (.slice (some ⟨b, off, none⟩) l.length cap) l t w (.returned (.slice (some ⟨b, off, none⟩) l.length cap)) w ∨ ¬ ins t l = l := by
    by_cases e : ins t l = l
    · exact .inl ⟨_, rfl, by rw [e]; exact .inr ⟨b, off, cap, rfl, ⟨hc, hcap⟩, hb, hr⟩, fun c hc => .inr hc, Kept.refl _ _⟩
    · exact .inr e
  have HSAME := Lib.hid hsame
  clear hs hcells hsame
  obtain ⟨n, hn⟩ : ∃ n : Nat, n = l.length := ⟨_, rfl⟩
  have HRT0 : Hid (∀ k, k ≤ n → w.rangeAt b off ((l.take k).map (Value.int .i64))) := Lib.hid fun k hk j v hv => hr j v (by
    rw [List.getElem?_map] at hv ⊢
    rw [← hv, List.getElem?_take_of_lt]
    have := (List.getElem?_eq_some_iff.1 (show ((l.take k).map (Value.int .i64))[j]? = some v by rw [List.getElem?_map]; exact hv)).1
    simp at this
    omega)
  have HRD0 : Hid (∀ k, k ≤ n → ∀ W, Kept (fun _ => False) w W → W.rangeAt b (off + k) ((l.drop k).map (Value.int .i64))) := Lib.hid fun k hk W K j v hv => by
    rw [List.getElem?_map, List.getElem?_drop, ← List.getElem?_map] at hv
    have := hr (k + j) v hv
    rw [Nat.add_assoc]
    exact (K.cell (a := ⟨b, _, none⟩) hb (fun h => h)).trans this
  clear hr
  rw [← hn] at hc hl HSAME ⊢
  have HN := Lib.hid hn
  clear hn
  have hn63 : (n : Int) ≤ 9223372036854775807 := by omega
  go_enter Try.func58, Try.ntmps58
  go_wp2
  go_loopw [5] (fun i wr => ∃ k : Nat, k ≤ n ∧ i = .int .i64 k ∧ (∀ j x, j < k → l[j]? = some x → x < t) ∧ wr = w) (fun i _ => match i with | .int _ x => (n - x).toNat | _ => 0)
  case atStart => exact ⟨0, Nat.zero_le _, rfl, fun _ _ h => absurd h (by omega), rfl⟩
  case round =>
    obtain ⟨k, hk, rfl, hbef, rfl⟩ := hrel
    have HB := Lib.hid hbef
    have HTL : Hid (((l.take k).map (Value.int .i64)).length = k * 1) := Lib.hid (by simp [List.length_take]; have := HN.out; omega)
    have HDL : Hid (((l.drop k).map (Value.int .i64)).length = (n - k) * 1) := Lib.hid (by simp [List.length_drop]; have := HN.out; omega)
    have HRT := Lib.hid (HRT0.out k hk)
    have HRD := Lib.hid (HRD0.out k hk)
    have HZ : Hid (0 + k ≤ maxLen ∧ (0 + k) * 8 ≤ 140737488355328 ∧ k + 1 ≤ maxLen ∧ (k + 1) * 8 ≤ 140737488355328 ∧ k + 1 + (n - k) ≤ maxLen ∧ (k + 1 + (n - k)) * 8 ≤ 140737488355328) := Lib.hid (by unfold maxLen; omega)
    have HFIN : Hid ((∀ x, l[k]? = some x → ¬ x < t ∧ x ≠ t) → ∀ v3 w3, AS wr w3 v3 (k + 1 + (n - k)) ((l.take k).map (Value.int .i64) ++ [.int .i64 t] ++ (l.drop k).map (Value.int .i64)) → AddPost (.slice (some ⟨b, off, none⟩) n cap) l t wr (.returned v3) w3) := Lib.hid fun h v3 w3 hA => by
      have e := ins_at t l k (by have := HN.out; omega) (fun i x hi hx => HB.out i x hi hx) (fun x hx => (h x hx).1)
      rw [if_neg (fun hq => (h t hq).2 rfl)] at e
      refine hA.fin (by rw [map_mid, e]) ?_
      rw [e]
      simp [List.length_take, List.length_drop]
      have := HN.out
      omega
    clear hbef
    by_cases hlt : k < n
    · have hkl : k < l.length := by have := HN.out; omega
      have hx0 := HC.out k l[k] (List.getElem?_eq_getElem hkl)
      have HX : Hid (l[k]? = some l[k]) := Lib.hid (List.getElem?_eq_getElem hkl)
      generalize l[k] = x at hx0 HX
      by_cases h1 : x < t
      · go_wp2
        go_roundw
        case rel =>
          have HNX : Hid (∀ j y, j < k + 1 → l[j]? = some y → y < t) := Lib.hid fun j y hj hy => by
            by_cases e : j = k
            · subst e; rw [HX.out] at hy; injection hy with hy; subst hy; exact h1
            · exact HB.out j y (by omega) hy
          exact ⟨k + 1, by omega, by go_num, HNX.out, trivial⟩
        case measure => simp; omega
      · by_cases h2 : x = t
        · subst h2
          have HE : Hid (ins x l = l) := Lib.hid (by
            have e := ins_at x l k (by have := HN.out; omega) (fun i y hi hy => HB.out i y hi hy) (fun y hy => by rw [HX.out] at hy; injection hy with hy; omega)
            rw [if_pos HX.out] at e
            exact e)
          go_wp2
          go_ret
          exact HSAME.out.elim id fun h => absurd HE.out h
        · replace HFIN := Lib.hid (HFIN.out fun y hy => by rw [HX.out] at hy; injection hy with hy; subst hy; exact ⟨h1, h2⟩)
          go_wp2_with (at_builtin; go_loud (first | (refine wpList_appA el28 rfl (.tmp 34) (.tmp 37) rfl wr.heap.size (.slice none 0 0) 0 [] rfl HO.out.1 b off k cap ((l.take k).map (Value.int .i64)) rfl HTL.out (ints_one _) HRT.out HZ.out.1 HZ.out.2.1 (Nat.le_refl _) ?_; rintro v1 w1 hown1 K1; have HO1 : Hid (AS wr w1 v1 k ((l.take k).map (Value.int .i64))) := Lib.hid (by simpa using HO.out.step hown1 K1); clear hown1 K1) | (refine wpList_app2 el28 rfl (.tmp 39) (.tmp 41) rfl wr.heap.size v1 k ((l.take k).map (Value.int .i64)) rfl HO1.out.1 rfl rfl (ints_one [t]) HZ.out.2.2.1 HZ.out.2.2.2.1 HO1.out.2.1 ?_; rintro g2 c2 w2 hown2 K2 -; have HO2 := Lib.hid (HO1.out.step hown2 K2); clear hown2 K2) | (refine wpList_appA el28 rfl (.tmp 43) (.tmp 46) rfl wr.heap.size (.slice (some ⟨g2, 0, none⟩) (k + 1) c2) (k + 1) ((l.take k).map (Value.int .i64) ++ [.int .i64 t]) rfl HO2.out.1 b (off + k) (n - k) (cap - k) ((l.drop k).map (Value.int .i64)) rfl HDL.out (ints_one _) (HRD.out w2 HO2.out.2.2) HZ.out.2.2.2.2.1 HZ.out.2.2.2.2.2 HO2.out.2.1 ?_; rintro v3 w3 hown3 K3; have HO3 := Lib.hid (HO2.out.step hown3 K3); clear hown3 K3)))
          go_ret
          exact HFIN.out _ _ HO3.out
    · have hkn : k = n := by omega
      subst hkn
      replace HFIN := Lib.hid (HFIN.out fun y hy => by have := (List.getElem?_eq_some_iff.1 hy).1; have := HN.out; omega)
      have hdr : l.drop k = [] := List.drop_eq_nil_of_le (by have := HN.out; omega)
      have HDN : Hid ((([] : List Int).map (Value.int .i64)).length = 0 * 1 ∧ ∀ W b off, World.rangeAt W b off (([] : List Int).map (Value.int .i64))) := Lib.hid ⟨rfl, fun W b off j v hv => by simp at hv⟩
      rw [Nat.sub_self] at HZ; rw [hdr, Nat.sub_self] at HFIN
      have hkk : ¬ k < k := Nat.lt_irrefl k
      by_cases hck : k < cap
      · go_wp2_with (at_builtin; go_loud (first | (refine wpList_appA el28 rfl (.tmp 34) (.tmp 37) rfl wr.heap.size (.slice none 0 0) 0 [] rfl HO.out.1 b off k cap ((l.take k).map (Value.int .i64)) rfl HTL.out (ints_one _) HRT.out HZ.out.1 HZ.out.2.1 (Nat.le_refl _) ?_; rintro v1 w1 hown1 K1; have HO1 : Hid (AS wr w1 v1 k ((l.take k).map (Value.int .i64))) := Lib.hid (by simpa using HO.out.step hown1 K1); clear hown1 K1) | (refine wpList_app2 el28 rfl (.tmp 39) (.tmp 41) rfl wr.heap.size v1 k ((l.take k).map (Value.int .i64)) rfl HO1.out.1 rfl rfl (ints_one [t]) HZ.out.2.2.1 HZ.out.2.2.2.1 HO1.out.2.1 ?_; rintro g2 c2 w2 hown2 K2 -; have HO2 := Lib.hid (HO1.out.step hown2 K2); clear hown2 K2) | (refine wpList_appA el28 rfl (.tmp 43) (.tmp 46) rfl wr.heap.size (.slice (some ⟨g2, 0, none⟩) (k + 1) c2) (k + 1) ((l.take k).map (Value.int .i64) ++ [.int .i64 t]) rfl HO2.out.1 b (off + k) 0 (cap - k) (([] : List Int).map (Value.int .i64)) rfl HDN.out.1 (ints_one _) (HDN.out.2 _ _ _) HZ.out.2.2.2.2.1 HZ.out.2.2.2.2.2 HO2.out.2.1 ?_; rintro v3 w3 hown3 K3; have HO3 := Lib.hid (HO2.out.step hown3 K3); clear hown3 K3)))
        go_ret
        exact HFIN.out _ _ HO3.out
      · have hkc : k = cap := by omega
        subst hkc
        go_wp2_with (at_builtin; go_loud (first | (refine wpList_appA el28 rfl (.tmp 34) (.tmp 37) rfl wr.heap.size (.slice none 0 0) 0 [] rfl HO.out.1 b off k k ((l.take k).map (Value.int .i64)) rfl HTL.out (ints_one _) HRT.out HZ.out.1 HZ.out.2.1 (Nat.le_refl _) ?_; rintro v1 w1 hown1 K1; have HO1 : Hid (AS wr w1 v1 k ((l.take k).map (Value.int .i64))) := Lib.hid (by simpa using HO.out.step hown1 K1); clear hown1 K1) | (refine wpList_app2 el28 rfl (.tmp 39) (.tmp 41) rfl wr.heap.size v1 k ((l.take k).map (Value.int .i64)) rfl HO1.out.1 rfl rfl (ints_one [t]) HZ.out.2.2.1 HZ.out.2.2.2.1 HO1.out.2.1 ?_; rintro g2 c2 w2 hown2 K2 -; have HO2 := Lib.hid (HO1.out.step hown2 K2); clear hown2 K2) | (refine wpList_appA el28 rfl (.tmp 43) (.tmp 46) rfl wr.heap.size (.slice (some ⟨g2, 0, none⟩) (k + 1) c2) (k + 1) ((l.take k).map (Value.int .i64) ++ [.int .i64 t]) rfl HO2.out.1 b off 0 0 (([] : List Int).map (Value.int .i64)) rfl HDN.out.1 (ints_one _) (HDN.out.2 _ _ _) HZ.out.2.2.2.2.1 HZ.out.2.2.2.2.2 HO2.out.2.1 ?_; rintro v3 w3 hown3 K3; have HO3 := Lib.hid (HO2.out.step hown3 K3); clear hown3 K3)))
        go_ret
        exact HFIN.out _ _ HO3.out
theorem add_c {w : World} {v : Value} {l : List Int} (t : Int) (h : IntsN w v l) (hl : l.length ≤ 1000) (hs : l.Pairwise (· < ·)) : Calls Try.prog 58 #[v, .int .i64 t] w (AddPost v l t w) := by
  rcases h with ⟨rfl, rfl⟩ | ⟨b, off, cap, rfl, hc, hb, hr⟩
  · exact add_nil w t
  · exact add_pos t hc.1 hb hr hl hc.2 hs
end Go.Proofs.Ytaedijppbghnaaa
