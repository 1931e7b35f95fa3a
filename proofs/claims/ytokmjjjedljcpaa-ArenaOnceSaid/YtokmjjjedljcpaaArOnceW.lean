/- ArOnceW: texts for the statements of this seat: contracts of functions, walks, plain laws. Conditions: none. -/
import Derived.Test.YtokmjjjedljcpaaArOnce
import Derived.Test.YtokmjjjedljcpaaArContains
import Derived.Test.YtokmjjjedljcpaaArSortH
import Derived.Test.YtokmjjjedljcpaaArRefNew
import Derived.Test.YtokmjjjedljcpaaArQuiet
import Derived.Test.YtokmjjjedljcpaaArLiveA
namespace Go.Proofs.Ytokmjjjedljcpaa
open Go.RowKit

structure Bools (W : World) (lb L : Nat) (lv : Nat → Bool) : Prop where
  cell : ∀ j, j < L → W.cell? ⟨lb, j, none⟩ = some (.bool (lv j))
  fz : ∀ j, W.frozen? ⟨lb, j, none⟩ = false
  lt : lb < W.heap.size
theorem Bools.kept {S : Nat → Prop} {W W' : World} {lb L : Nat} {lv : Nat → Bool} (B : Bools W lb L lv) (K : Kept S W W') (hS : ¬ S lb) : Bools W' lb L lv :=
  ⟨fun j hj => (K.cell (a := ⟨lb, j, none⟩) B.lt hS).trans (B.cell j hj), fun j => (K.frozen (a := ⟨lb, j, none⟩) B.lt hS).trans (B.fz j), Nat.lt_of_lt_of_le B.lt K.size⟩
theorem Bools.set {W : World} {lb L : Nat} {lv : Nat → Bool} (B : Bools W lb L lv) {j : Nat} (hj : j < L) (b : Bool) : Bools (W.setCell ⟨lb, j, none⟩ (.bool b)) lb L (updB lv j b) where
  cell := fun i hi => by
    rw [cell_set _ _ _ _ (by rw [B.cell j hj]; rfl)]
    by_cases e : i = j
    · subst e; rw [if_pos rfl, updB_at]
    · rw [if_neg (fun q => e (Addr.mk.inj q).2.1), updB_ne _ _ e]; exact B.cell i hi
  fz := fun i => by rw [World.frozen?_setCell]; exact B.fz i
  lt := by have := B.lt; simpa using this
theorem Bools.new (w : World) (L : Nat) : Bools (w.alloc (.cells (Array.replicate L (.bool false)) 4)) w.heap.size L (fun _ => false) where
  cell := fun j hj => by rw [World.cell?_alloc_at _ _ _ _ rfl]; simp [hj]
  fz := fun j => by rw [World.frozen?_alloc_at _ _ _ _ rfl]
  lt := by simp

/-- The state of the law between two steps. -/
def OW (w : World) (lb n L k : Nat) (v t : Value) (W : World) : Prop :=
  ∃ (m : Nat) (f : Nat → U) (fl : List Nat) (G : List Int) (lv : Nat → Bool), OI n k m f fl G lv ∧ IsA W (w.heap.size + 1) w.heap.size n (AA.of n f fl) ∧ t = .int .i64 (cnt n f) ∧
    W.ownsRow (lb + 1) 27 1 v G.length (G.map (Value.int .i64)) ∧ Bools W lb L lv ∧ Kept (fun _ => False) w W

set_option maxHeartbeats 4000000 in
set_option maxRecDepth 100000 in
theorem once_c (size : Int) (p : Option Addr) (L cap : Nat) (xs : List Int) (w : World) (s0 : 0 ≤ size) (s1 : size ≤ 255) (hL : xs.length = L)
    (hp : ∀ k x, xs[k]? = some x → 0 ≤ x ∧ x ≤ 65535 ∧ ∃ b off, p = some ⟨b, off, none⟩ ∧ b < w.heap.size ∧ w.cell? ⟨b, off + k, none⟩ = some (.int .u16 x)) :
    Calls Try.prog 9 #[.int .u8 size, .slice p L cap] w fun e w' => e = .returned (.bool true) ∧ Kept (fun _ => False) w w' := by
  have HP := Lib.hid hp
  have HL := Lib.hid hL
  clear hp hL
  go_enter Try.func9, Try.ntmps9
  go_wp2_with fail
  generalize hN : 1 + size % 40 = N
  have n1 : 1 ≤ N := by omega
  have n2 : N ≤ 40 := by omega
  clear hN
  obtain ⟨n, rfl⟩ := Int.eq_ofNat_of_zero_le (show 0 ≤ N by omega)
  refine (new_a n _ (by omega) (by omega)).mono ?_
  rintro e w1 ⟨rfl, I0, K0⟩
  have hla := I0.lta
  rw [Int.toNat_natCast] at I0
  by_cases hb : L ≤ 300
  · have hmk := make_c Try.underlying62 Try.info4 rfl (by omega) L (by omega) w1
    have B0 := Bools.new w1 L
    have KA := K0.alloc (.cells (Array.replicate L (.bool false)) 4)
    have IA : IsA (w1.alloc (.cells (Array.replicate L (.bool false)) 4)) (w.heap.size + 1) w.heap.size n (AA.empty n) := I0.kept ((Kept.refl (fun _ => False) _).alloc _) (fun h => h) (fun h => h)
    have START : OW w w1.heap.size n L 0 (.slice none 0 0) (.int .i64 0) (w1.alloc (.cells (Array.replicate L (.bool false)) 4)) :=
      ⟨0, _, [], [], _, OI.start n, by rw [← AA.of_empty]; exact IA, by
        have : cnt n (fun _ => { use := 0, taken := false, v := 0 }) = 0 := List.countP_eq_zero.2 (fun x _ => by simp)
        rw [this]; rfl, World.ownsRow_nil _ _ _ _, B0, KA⟩
    have START := Lib.hid START
    obtain ⟨lb, hlb⟩ : ∃ lb, w1.heap.size = lb := ⟨_, rfl⟩
    rw [hlb] at START hmk
    clear I0 K0 B0 KA IA
    go_wp2_with fail
    go_loopw [8, 9, 50] (fun v t i wr => ∃ k : Nat, k ≤ L ∧ i = .int .i64 k ∧ OW w lb n L k v t wr)
      (fun _ _ i _ => L - (intOf i).toNat)
    case atStart => exact ⟨0, by omega, rfl, START.out⟩
    case round =>
      clear START hmk
      obtain ⟨k, hk, rfl, m, f, fl, G, lv, O, I, rfl, hown, B, K⟩ := hrel
      have gl := O.lt
      obtain ⟨ga, gc, rfl⟩ := (Ints.of_own hown).len
      by_cases hlt : k < L
      · obtain ⟨x, hx⟩ : ∃ x, xs[k]? = some x := ⟨_, List.getElem?_eq_getElem (by have := HL.out; omega)⟩
        obtain ⟨x0, x1, b, off, rfl, hbw, hcw⟩ := HP.out k x hx
        have hcx := (K.cell (a := ⟨b, off + k, none⟩) hbw (fun h => h)).trans hcw
        clear hcw hx
        by_cases hput : 0 < x % 3 ∨ G.length = 0
        · rcases O.put (by omega) (by omega) (k : Int) with ⟨hc, hp⟩ | ⟨hc, f', fl', m', h, hp, hng, h1, h2, h3, hcc, O'⟩
          · have HC := Lib.hid (put_a I hp)
            have HO := Lib.hid O
            have hn2 : (cnt n f : Int) = n := by omega
            rw [hn2]
            clear hp hc O
            have hsp : 0 < x % 3 ∨ (¬ 0 < x % 3 ∧ (G.length : Int) = 0) := by omega
            clear hput
            rcases hsp with hq | ⟨hq, hq2⟩
            all_goals
              go_wp2_with fail
              refine HC.out.mono ?_
              rintro e w2 ⟨rfl, I2, K2⟩
              try clear hq2
              have la2 := K2.size
              have hown2 := ownsRow_kept hown K2 (fun b hb _ h => by rcases h with h | h <;> omega)
              have B2 := B.kept K2 (fun h => by rcases h with h | h <;> omega)
              have KK : Kept (fun _ => False) w w2 := K.trans K2 (fun i hi h => by rcases h with h | h <;> omega)
              have HH := Lib.hid (And.intro hown2 (And.intro B2 KK))
              clear hown hown2 B B2 K K2 KK I hcx
              go_wp2_with fail
              go_roundw
              case rel => exact ⟨k + 1, by omega, by go_num, m, f, fl, G, lv, HO.out.more, I2, by rw [hn2], HH.out.1, HH.out.2.1, HH.out.2.2⟩
              case measure => simp [intOf]; omega
          · have HC := Lib.hid (put_a I hp)
            have HO := Lib.hid O'
            have hn2 : (cnt n f : Int) < n := by omega
            have HG := Lib.hid (show G.contains h = false by simpa using hng)
            have HCC := Lib.hid hcc
            clear hp hc O O' hng hcc
            have hsp : 0 < x % 3 ∨ (¬ 0 < x % 3 ∧ (G.length : Int) = 0) := by omega
            clear hput
            rcases hsp with hq | ⟨hq, hq2⟩
            all_goals
              go_wp2_with fail
              refine HC.out.mono ?_
              rintro e w2 ⟨rfl, I2, K2⟩
              try clear hq2
              have la2 := K2.size
              have hown2 := ownsRow_kept hown K2 (fun b hb _ h => by rcases h with h | h <;> omega)
              have B2 := B.kept K2 (fun h => by rcases h with h | h <;> omega)
              have KK : Kept (fun _ => False) w w2 := K.trans K2 (fun i hi h => by rcases h with h | h <;> omega)
              have HH := Lib.hid (And.intro hown2 (And.intro B2 KK))
              have HCO := Lib.hid (contains_c (.slice ga G.length gc) G h false w2 (Ints.of_own hown2) (by omega) HG.out)
              clear hown hown2 B B2 K K2 KK I hcx
              go_wp2_with fail
              refine HCO.out.mono ?_
              rintro e w3 ⟨rfl, nq, hw3⟩
              have KD : Kept (fun _ => False) w2 w3 := hw3 ▸ (Kept.refl _ w2).drewN nq
              have B3 := HH.out.2.1.kept KD (fun h => h)
              have hl3 := B3.lt
              have hown3 := ownsRow_kept HH.out.1 KD (fun _ _ _ h => h)
              have I3 := I2.kept KD (fun h => h) (fun h => h)
              have KK3 := HH.out.2.2.trans KD (fun _ _ h => h)
              have la3 := KD.size
              have hcl := B3.cell G.length (by omega)
              have hfz := B3.fz G.length
              have hB4 := B3.set (j := G.length) (by omega) true
              have K4 : Kept (fun b => b = lb) w3 (w3.setCell ⟨lb, G.length, none⟩ (.bool true)) := (Kept.refl _ w3).setCell _ _ (fun _ => rfl)
              have hown4 := ownsRow_kept hown3 K4 (fun b hb _ h => by omega)
              have I4 := I3.kept K4 (fun h => by omega) (fun h => by omega)
              have KK4 : Kept (fun _ => False) w (w3.setCell ⟨lb, G.length, none⟩ (.bool true)) := KK3.trans K4 (fun i hi h => by omega)
              have HB4 := Lib.hid (And.intro hB4 (And.intro I4 KK4))
              have HO4 := Lib.hid hown4
              have hgl : (G.length : Int) < L := by omega
              clear hw3 KD B3 hown3 I3 KK3 hB4 K4 hown4 I4 KK4 HH HCO I2
              go_wp2_with (at_builtin; refine wpList_app1 el26 rfl _ _ rfl (lb + 1) _ G.length (G.map (Value.int .i64)) rfl HO4.out (show Value.slice (some ⟨w3.heap.size, 0, none⟩) 1 1 = .slice (some ⟨(w3.setCell ⟨lb, G.length, none⟩ (.bool true)).heap.size, 0, none⟩) 1 1 by simp) rfl ?c1 ?c2 ?c3 ?c4 ?_)
              case c1 => intro u hu; simp at hu; subst hu; rfl
              case c2 => unfold maxLen; omega
              case c3 => omega
              case c4 => simp; omega
              intro g cap5 w5 hown5 K5
              have I5 := HB4.out.2.1.kept K5 (fun h => by have := (ownsRow_block HO4.out h).1; omega) (fun h => by have := (ownsRow_block HO4.out h).1; omega)
              have B5 := HB4.out.1.kept K5 (fun h => by have := (ownsRow_block HO4.out h).1; omega)
              have hl4 : w.heap.size ≤ (w3.setCell ⟨lb, G.length, none⟩ (.bool true)).heap.size := HB4.out.2.2.size
              have KK5 : Kept (fun _ => False) w w5 := HB4.out.2.2.trans K5 (fun i hi h => by have := (ownsRow_block HO4.out h).1; omega)
              have hown6 : w5.ownsRow (lb + 1) 27 1 (.slice (some ⟨g, 0, none⟩) (G.length + 1) cap5) (G ++ [h]).length ((G ++ [h]).map (Value.int .i64)) := by rw [List.map_append, List.length_append]; exact hown5
              have HX := Lib.hid (And.intro I5 (And.intro B5 (And.intro KK5 hown6)))
              clear hown5 K5 I5 B5 KK5 hown6 HO4 HB4 hcl hfz
              go_wp2_with fail
              go_roundw
              case rel => exact ⟨k + 1, by omega, by go_num, m', f', fl', G ++ [h], updB lv G.length true, HO.out, HX.out.1, by rw [HCC.out]; rfl, HX.out.2.2.2, HX.out.2.1, HX.out.2.2.1⟩
              case measure => simp [intOf]; omega
        · have hx3 : ¬ 0 < x % 3 := by omega
          have hg0 : 0 < G.length := by omega
          have hgi : ¬ (G.length : Int) = 0 := by omega
          clear hput
          obtain ⟨g, gcx, hgv, hgb⟩ := ownsRow_pos hown hg0
          obtain ⟨rfl, rfl⟩ : ga = some ⟨g, 0, none⟩ ∧ gc = gcx := by injection hgv with h1 h2 h3; exact ⟨h1, h3⟩
          clear hgv
          obtain ⟨y, rfl⟩ := Int.eq_ofNat_of_zero_le x0
          obtain ⟨j, hje⟩ : ∃ j, y / 3 % G.length = j := ⟨_, rfl⟩
          have hj : j < G.length := by rw [← hje]; exact Nat.mod_lt _ hg0
          obtain ⟨h, hh⟩ : ∃ h, G[j]? = some h := ⟨_, List.getElem?_eq_getElem hj⟩
          have hgc : wr.cell? ⟨g, y / 3 % G.length, none⟩ = some (.int .i64 h) := by
            rw [hje, hown.cellAt j (by omega), List.getElem?_map, hh]; rfl
          have hlc : wr.cell? ⟨lb, y / 3 % G.length, none⟩ = some (.bool (lv j)) := by
            rw [hje]; exact B.cell j (by omega)
          have hj2 : (y : Int) / 3 % G.length < G.length := Int.emod_lt_of_pos _ (by omega)
          have hj3 : 0 ≤ (y : Int) / 3 % G.length := Int.emod_nonneg _ (by omega)
          have hj4 : (y : Int) / 3 % G.length < L := by omega
          have hgl := (ownsRow_block hown (b := g) rfl).2
          have hbd := O.bound (by omega) (by omega) hh
          rcases O.free (by omega) (by omega) hh with ⟨hlv, hp⟩ | ⟨hlv, f', fl', hp, hcc, O'⟩
          · obtain ⟨v0, hget, hv0⟩ := O.get (by omega) hh
            rw [hlv] at hget hlc
            obtain ⟨r1, r2⟩ := O.room (by omega)
            have HC := Lib.hid (free_a I (by omega) hp)
            have HO := Lib.hid O
            have HR := Lib.hid (And.intro r1 (And.intro r2 hget))
            have HJ := Lib.hid (And.intro hje hh)
            clear hp hget hv0 r1 r2 O hje hh
            go_wp2_with fail
            refine HC.out.mono ?_
            rintro e w2 ⟨rfl, I2, K2⟩
            have la2 := K2.size
            have hown2 := ownsRow_kept hown K2 (fun b hb _ h => by rcases h with h | h <;> omega)
            have B2 := B.kept K2 (fun h => by rcases h with h | h <;> omega)
            have KK : Kept (fun _ => False) w w2 := K.trans K2 (fun i hi h => by rcases h with h | h <;> omega)
            have hgc2 := (K2.cell (a := ⟨g, y / 3 % G.length, none⟩) hgl (show ¬ (g = w.heap.size + 1 ∨ g = w.heap.size) from by omega)).trans hgc
            have HG := Lib.hid (get_a I2 (by omega) HR.out.2.2)
            have HL1 := Lib.hid (len_a I2 (n := (cnt n f : Int)) (by rw [HR.out.1]))
            have HRM := Lib.hid (room_a I2 (n := (n : Int) - cnt n f) (by rw [HR.out.2.1]; have := cnt_le n f; omega))
            have HH := Lib.hid (And.intro hown2 (And.intro B2 KK))
            clear hown hown2 B B2 K K2 KK I hcx hgc hlc HC
            go_wp2_with fail
            refine HG.out.mono ?_
            rintro e w3 ⟨rfl, rfl⟩
            go_wp2_with fail
            refine HL1.out.mono ?_
            rintro e w3 ⟨rfl, rfl⟩
            go_wp2_with fail
            refine HL1.out.mono ?_
            rintro e w3 ⟨rfl, rfl⟩
            go_wp2_with fail
            refine HRM.out.mono ?_
            rintro e w3 ⟨rfl, I3, K3⟩
            have hown3 := ownsRow_kept HH.out.1 K3 (fun _ _ _ h => h)
            have B3 := HH.out.2.1.kept K3 (fun h => h)
            have KK3 := HH.out.2.2.trans K3 (fun _ _ h => h)
            have HX := Lib.hid (And.intro hown3 (And.intro B3 KK3))
            clear hown3 B3 K3 KK3 HH HG HL1 HRM hgc2
            go_wp2_with fail
            go_roundw
            case rel => exact ⟨k + 1, by omega, by go_num, m, f, fl, G, lv, HO.out.more, I3, rfl, HX.out.1, HX.out.2.1, HX.out.2.2⟩
            case measure => simp [intOf]; omega
          · rw [hlv] at hlc
            obtain ⟨v0, hget, hv0⟩ := O'.get (by omega) hh
            rw [updB_at] at hget hv0
            have hv0 := hv0 rfl
            subst hv0
            obtain ⟨r1, r2⟩ := O'.room (by omega)
            have hB4 := B.set (j := j) (by omega) false
            have K4 : Kept (fun b => b = lb) wr (wr.setCell ⟨lb, j, none⟩ (.bool false)) := (Kept.refl _ wr).setCell _ _ (fun _ => rfl)
            have hown4 := ownsRow_kept hown K4 (fun b hb _ h => by omega)
            have I4 := I.kept K4 (fun h => by omega) (fun h => by omega)
            have KK4 : Kept (fun _ => False) w (wr.setCell ⟨lb, j, none⟩ (.bool false)) := K.trans K4 (fun i hi h => by omega)
            have hgc4 := (K4.cell (a := ⟨g, y / 3 % G.length, none⟩) hgl (show ¬ g = lb from by omega)).trans hgc
            have hfz : wr.frozen? ⟨lb, y / 3 % G.length, none⟩ = false := B.fz _
            have la4 := K4.size
            rw [← hje] at I4 hgc4 hB4 hown4 KK4 K4 la4
            have HC := Lib.hid (free_a I4 (by omega) hp)
            have HO := Lib.hid O'
            have HR := Lib.hid (And.intro r1 (And.intro r2 hget))
            have HJ := Lib.hid (And.intro hje hh)
            have hc1 : 1 ≤ (cnt n f : Int) := by omega
            have hc2 : (cnt n f : Int) ≤ 40 := by have := cnt_le n f; omega
            have HCC := Lib.hid hcc
            have HB := Lib.hid (And.intro hown4 (And.intro hB4 KK4))
            clear hp hget r1 r2 O O' hje hh hcc hown hown4 hB4 KK4 K4 I4 B K I hlv
            go_wp2_with fail
            refine HC.out.mono ?_
            rintro e w2 ⟨rfl, I2, K2⟩
            have hown2 := ownsRow_kept HB.out.1 K2 (fun b hb _ h => by rcases h with h | h <;> omega)
            have B2 := HB.out.2.1.kept K2 (fun h => by rcases h with h | h <;> omega)
            have KK : Kept (fun _ => False) w w2 := HB.out.2.2.trans K2 (fun i hi h => by rcases h with h | h <;> omega)
            have hgc2 := (K2.cell (a := ⟨g, y / 3 % G.length, none⟩) (show g < _ by omega) (show ¬ (g = w.heap.size + 1 ∨ g = w.heap.size) from by omega)).trans hgc4
            have HG := Lib.hid (get_a I2 (by omega) HR.out.2.2)
            have HL1 := Lib.hid (len_a I2 (n := (cnt n f : Int) - 1) (by rw [HR.out.1]; have := HCC.out; omega))
            have HRM := Lib.hid (room_a I2 (n := (n : Int) - (cnt n f - 1)) (by rw [HR.out.2.1]; have := HCC.out; have := cnt_le n f'; omega))
            have HH := Lib.hid (And.intro hown2 (And.intro B2 KK))
            clear hown2 B2 K2 KK hgc hlc HC HB hgc4 hfz hcx
            go_wp2_with fail
            refine HG.out.mono ?_
            rintro e w3 ⟨rfl, rfl⟩
            go_wp2_with fail
            refine HL1.out.mono ?_
            rintro e w3 ⟨rfl, rfl⟩
            go_wp2_with fail
            refine HL1.out.mono ?_
            rintro e w3 ⟨rfl, rfl⟩
            go_wp2_with fail
            refine HRM.out.mono ?_
            rintro e w3 ⟨rfl, I3, K3⟩
            have hown3 := ownsRow_kept HH.out.1 K3 (fun _ _ _ h => h)
            have B3 := HH.out.2.1.kept K3 (fun h => h)
            have KK3 := HH.out.2.2.trans K3 (fun _ _ h => h)
            rw [HJ.out.1] at B3
            have HX := Lib.hid (And.intro hown3 (And.intro B3 KK3))
            clear hown3 B3 K3 KK3 HH HG HL1 HRM hgc2
            go_wp2_with fail
            go_roundw
            case rel => exact ⟨k + 1, by omega, by go_num, m, f', fl', G, updB lv j false, HO.out.more, I3, by have := HCC.out; congr 1; omega, HX.out.1, HX.out.2.1, HX.out.2.2⟩
            case measure => simp [intOf]; omega
      · obtain rfl : k = L := by omega
        have hcw := cnt_le n f
        have HO := Lib.hid O
        have hil := I.lta
        have hgw : ∀ b, (Value.slice ga G.length gc).ownBlock = some b → lb + 1 ≤ b ∧ b < wr.heap.size := fun b hb => ownsRow_block hown hb
        have HGW := Lib.hid hgw
        clear O hlt hgw
        obtain ⟨W0, rfl⟩ : ∃ W0 : World, W0 = wr := ⟨_, rfl⟩
        have hB0 : lb < W0.heap.size := B.lt
        have HST := Lib.hid (And.intro I (And.intro hown (And.intro B K)))
        clear I hown B K
        go_wp2_with fail
        go_loopw [19, 163] (fun v i wr => ∃ q : Nat, q ≤ G.length ∧ i = .int .i64 q ∧ IsA wr (w.heap.size + 1) w.heap.size n (AA.of n f fl) ∧ wr.ownsRow (lb + 1) 27 1 (.slice ga G.length gc) G.length (G.map (Value.int .i64)) ∧ Bools wr lb k lv ∧ Kept (fun _ => False) w wr ∧ W0.heap.size ≤ wr.heap.size ∧
            wr.ownsRow W0.heap.size 27 1 v (wt G lv q).length ((wt G lv q).map (Value.int .i64)))
          (fun _ i _ => G.length - (intOf i).toNat)
        case atStart => exact ⟨0, by omega, rfl, HST.out.1, HST.out.2.1, HST.out.2.2.1, HST.out.2.2.2, Nat.le_refl _, World.ownsRow_nil _ _ _ _⟩
        case round =>
          clear HST
          obtain ⟨q, hq, rfl, I, hown, B, K, hsz, hwant⟩ := hrel
          obtain ⟨wa, wcap, rfl⟩ := (Ints.of_own hwant).len
          by_cases hlt : q < G.length
          · obtain ⟨g, gcx, hgv, hgb⟩ := ownsRow_pos hown (show 0 < G.length by omega)
            obtain ⟨rfl, rfl⟩ : ga = some ⟨g, 0, none⟩ ∧ gc = gcx := by injection hgv with h1 h2 h3; exact ⟨h1, h3⟩
            clear hgv
            have hgl := HGW.out g rfl
            obtain ⟨h, hh⟩ : ∃ h, G[q]? = some h := ⟨_, List.getElem?_eq_getElem hlt⟩
            have hgc : wr.cell? ⟨g, q, none⟩ = some (.int .i64 h) := by
              rw [hown.cellAt q (by omega), List.getElem?_map, hh]; rfl
            have hlc : wr.cell? ⟨lb, q, none⟩ = some (.bool (lv q)) := B.cell q (by omega)
            have hbd := HO.out.bound (by omega) (by omega) hh
            obtain ⟨v0, hget, hv0⟩ := HO.out.get (by omega) hh
            have hgd : G.getD q 0 = h := by rw [List.getD_eq_getElem?_getD, hh]; rfl
            have HG := Lib.hid (get_a I (by omega) hget)
            have hwl := wt_length G lv q
            cases hlv : lv q with
            | false =>
              have hv0 := hv0 hlv
              subst hv0
              rw [hlv] at hlc HG
              have e1 : wt G lv (q + 1) = wt G lv q := by simp [wt, hlv]
              have HST := Lib.hid (And.intro I (And.intro hown (And.intro B (And.intro K hwant))))
              have HE := Lib.hid e1
              clear I hown B K hwant e1 hget hh hgd hv0
              go_wp2_with fail
              refine HG.out.mono ?_
              rintro e w3 ⟨rfl, rfl⟩
              clear hlv
              go_wp2_with fail
              go_roundw
              case rel => exact ⟨q + 1, by omega, by go_num, HST.out.1, HST.out.2.1, HST.out.2.2.1, HST.out.2.2.2.1, hsz, by rw [HE.out]; exact HST.out.2.2.2.2⟩
              case measure => simp [intOf]; omega
            | true =>
              rw [hlv] at hlc HG
              have e1 : wt G lv (q + 1) = wt G lv q ++ [h] := by
                show (if lv q = true then wt G lv q ++ [G.getD q 0] else wt G lv q) = _
                rw [hlv, if_pos rfl, hgd]
              have HST := Lib.hid (And.intro I (And.intro hown (And.intro B (And.intro K hwant))))
              have HE := Lib.hid e1
              clear I hown B K hwant e1 hget hh hgd hv0 hlv
              go_wp2_with fail
              refine HG.out.mono ?_
              rintro e w3 ⟨rfl, rfl⟩
              go_wp2_with (at_builtin; refine wpList_app1 el26 rfl _ _ rfl W0.heap.size (.slice wa (wt G lv q).length wcap) (wt G lv q).length ((wt G lv q).map (Value.int .i64)) rfl HST.out.2.2.2.2 rfl rfl ?c1 ?c2 ?c3 ?c4 ?_)
              case c1 => intro u hu; simp at hu; subst hu; rfl
              case c2 => unfold maxLen; omega
              case c3 => omega
              case c4 => omega
              intro g5 cap5 w5 hown5 K5
              have hno : ∀ b, (Value.slice wa (wt G lv q).length wcap).ownBlock = some b → W0.heap.size ≤ b := fun b hb => (ownsRow_block HST.out.2.2.2.2 hb).1
              have I5 := HST.out.1.kept K5 (fun h => by have := hno _ h; omega) (fun h => by have := hno _ h; omega)
              have B5 := HST.out.2.2.1.kept K5 (fun h => by have := hno _ h; omega)
              have hG5 := ownsRow_kept HST.out.2.1 K5 (fun b _ hb h => by have := hno _ h; have := HGW.out b hb; omega)
              have hl4 : w.heap.size ≤ W0.heap.size := by omega
              have KK5 : Kept (fun _ => False) w w5 := HST.out.2.2.2.1.trans K5 (fun i hi h => by have := hno _ h; omega)
              have hsz5 : W0.heap.size ≤ w5.heap.size := Nat.le_trans hsz K5.size
              have hown6 : w5.ownsRow W0.heap.size 27 1 (.slice (some ⟨g5, 0, none⟩) ((wt G lv q).length + 1) cap5) (wt G lv (q + 1)).length ((wt G lv (q + 1)).map (Value.int .i64)) := by rw [HE.out, List.map_append, List.length_append]; exact hown5
              have HX := Lib.hid (And.intro I5 (And.intro hG5 (And.intro B5 (And.intro KK5 hown6))))
              clear hown5 K5 I5 B5 KK5 hown6 HST hG5 hgc hlc hno
              go_wp2_with fail
              go_roundw
              case rel => exact ⟨q + 1, by omega, by go_num, HX.out.1, HX.out.2.1, HX.out.2.2.1, HX.out.2.2.2.1, hsz5, HX.out.2.2.2.2⟩
              case measure => simp [intOf]; omega
          · obtain rfl : q = G.length := by omega
            have hwl := wt_length G lv G.length
            have hno : ∀ b, (Value.slice wa (wt G lv G.length).length wcap).ownBlock = some b → W0.heap.size ≤ b := fun b hb => (ownsRow_block hwant hb).1
            have HS := Lib.hid (sort_c (wt G lv G.length) (fun x hx => by
              obtain ⟨j, -, -, hj⟩ := (wt_mem (Nat.le_refl _) x).1 hx
              have := HO.out.bound (by omega) (by omega) hj; omega) (by omega) hwant)
            have HST := Lib.hid (And.intro I K)
            clear I hown B K hwant hlt
            go_wp2_with fail
            refine HS.out.mono ?_
            rintro e w2 ⟨rfl, d, hd1, hd2, hI2, K2⟩
            have I2 := HST.out.1.kept K2 (fun h => by have := hno _ h; omega) (fun h => by have := hno _ h; omega)
            have KK2 : Kept (fun _ => False) w w2 := HST.out.2.trans K2 (fun i hi h => by have := hno _ h; omega)
            have hlive : (AA.of n f fl).live = d := HO.out.live (by omega) d hd1 hd2
            have hdl : d.length ≤ 300 := by have := hd1.length_eq; omega
            have HD := Lib.hid (And.intro hd1 hlive)
            have HI2 := Lib.hid (And.intro hI2 KK2)
            have HLV := Lib.hid (live_a I2)
            clear HS HST hd1 hd2 hI2 K2 KK2 hlive
            go_wp2_with fail
            refine HLV.out.mono ?_
            rintro e w3 ⟨v3, rfl, hown3, K3⟩
            have I3 := I2.kept K3 (fun h => h) (fun h => h)
            have hl2 := HI2.out.1.kept K3 (fun _ _ h => h)
            have KK3 : Kept (fun _ => False) w w3 := HI2.out.2.trans K3 (fun _ _ h => h)
            rw [HD.out.2] at hown3
            have HE := Lib.hid (equal_c v3 (.slice wa (wt G lv G.length).length wcap) d d w3 (Ints.of_own hown3) hl2 (by omega) (by omega))
            simp only [decide_true] at HE
            have HK3 := Lib.hid KK3
            clear HLV hown3 K3 hl2 KK3 I2 HI2
            go_wp2_with fail
            refine HE.out.mono ?_
            rintro e w4 ⟨rfl, nq, rfl⟩
            have I4 := I3.kept ((Kept.refl (fun _ => False) w3).drewN nq) (fun h => h) (fun h => h)
            have HL := Lib.hid (len_a I4 (n := (cnt n f : Int)) (by rw [AA.len_of]; rfl))
            clear I3 I4 HE
            go_wp2_with fail
            refine HL.out.mono ?_
            rintro e w5 ⟨rfl, rfl⟩
            go_wp2_with fail
            refine (works_c _).mono ?_
            rintro e w6 ⟨rfl, K6⟩
            go_wp2_with fail
            go_ret
            exact ⟨rfl, (HK3.out.drewN nq).trans K6 (fun _ _ h => h)⟩
  · have HI := Lib.hid K0
    clear I0 K0
    go_wp2_with fail
    refine (works_c w1).mono ?_
    rintro e w2 ⟨rfl, K2⟩
    go_wp2_with fail
    go_ret
    exact ⟨rfl, HI.out.trans K2 (fun _ _ h => h)⟩
end Go.Proofs.Ytokmjjjedljcpaa
