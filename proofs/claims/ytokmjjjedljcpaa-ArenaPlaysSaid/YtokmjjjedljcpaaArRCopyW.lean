/- ArRCopyW: texts for the statements of this seat: contracts of functions, walks, plain laws. Conditions: none. -/
import Derived.Deep.Cut
import Derived.Deep.CutRange
import Derived.Deep.DeepCutAuto
import Derived.Test.YtokmjjjedljcpaaArRCopy
set_option linter.all false
/- Copy of the document's arena: the walk. -/
namespace Go.Proofs.Ytokmjjjedljcpaa
open Go.RowKit
structure CS (w wk : World) (B : Nat) (c1 c2 c3 c4 : Value) (l1 l2 l3 l4 : List Value) : Prop where
  hd : RowAt wk B [.bool true, c1, c2, c3, c4]
  r1 : wk.ownsRow w.heap.size 2 1 c1 l1.length l1
  r2 : wk.ownsRow w.heap.size 4 1 c2 l2.length l2
  r3 : wk.ownsRow w.heap.size 3 1 c3 l3.length l3
  r4 : wk.ownsRow w.heap.size 3 1 c4 l4.length l4
  a1 : ∀ b, c1.ownBlock = some b → b ≠ B ∧ ¬ c2.ownBlock = some b ∧ ¬ c3.ownBlock = some b ∧ ¬ c4.ownBlock = some b
  a2 : ∀ b, c2.ownBlock = some b → b ≠ B ∧ ¬ c3.ownBlock = some b ∧ ¬ c4.ownBlock = some b
  a3 : ∀ b, c3.ownBlock = some b → b ≠ B ∧ ¬ c4.ownBlock = some b
  a4 : ∀ b, c4.ownBlock = some b → b ≠ B
  kept : Kept (fun _ => False) w wk
  lo : w.heap.size ≤ B
variable {w wk w2 : World} {B : Nat} {c1 c2 c3 c4 v' : Value} {l1 l2 l3 l4 xs : List Value}
theorem CS.same (h : CS w wk B c1 c2 c3 c4 l1 l2 l3 l4) (K : Kept (fun _ => False) wk w2) : CS w w2 B c1 c2 c3 c4 l1 l2 l3 l4 :=
  ⟨RowAt.same h.hd K, ownsRow_kept h.r1 K (fun _ _ _ h => h), ownsRow_kept h.r2 K (fun _ _ _ h => h), ownsRow_kept h.r3 K (fun _ _ _ h => h), ownsRow_kept h.r4 K (fun _ _ _ h => h), h.a1, h.a2, h.a3, h.a4, h.kept.trans K (fun _ _ h => h), h.lo⟩
theorem CS.set1 (h : CS w wk B c1 c2 c3 c4 l1 l2 l3 l4) (K2 : Kept (fun _ => False) wk w2) (ho : w2.ownsRow wk.heap.size 2 1 v' xs.length xs) : CS w (w2.setCell ⟨B, 1, none⟩ v') B v' c2 c3 c4 xs l2 l3 l4 := by
  have K := kept_set w2 B 1 v'
  have ho2 : ∀ b, c2.ownBlock = some b → b < wk.heap.size := fun b q => (ownsRow_block h.r2 q).2
  have ho3 : ∀ b, c3.ownBlock = some b → b < wk.heap.size := fun b q => (ownsRow_block h.r3 q).2
  have ho4 : ∀ b, c4.ownBlock = some b → b < wk.heap.size := fun b q => (ownsRow_block h.r4 q).2
  have hn : ∀ b, v'.ownBlock = some b → wk.heap.size ≤ b := fun b q => (ownsRow_block ho q).1
  have hB := h.hd.lt
  refine ⟨by have := RowAt.set (RowAt.same h.hd K2) (j := 1) (by simp) v'; simpa using this, ownsRow_kept (ownsRow_base ho h.kept.size) K (fun b _ q r => by have := hn b q; omega),
    ownsRow_kept (ownsRow_kept h.r2 K2 (fun _ _ _ h => h)) K (fun b _ q r => (h.a2 b q).1 r),
    ownsRow_kept (ownsRow_kept h.r3 K2 (fun _ _ _ h => h)) K (fun b _ q r => (h.a3 b q).1 r),
    ownsRow_kept (ownsRow_kept h.r4 K2 (fun _ _ _ h => h)) K (fun b _ q r => h.a4 b q r), fun b q => ⟨fun z => by have := hn b q; omega, fun z => by have := hn b q; have := ho2 b z; omega, fun z => by have := hn b q; have := ho3 b z; omega, fun z => by have := hn b q; have := ho4 b z; omega⟩,
    fun b q => ⟨(h.a2 b q).1, (h.a2 b q).2.1, (h.a2 b q).2.2⟩,
    fun b q => ⟨(h.a3 b q).1, (h.a3 b q).2⟩,
    fun b q => (h.a4 b q), (h.kept.trans K2 (fun _ _ h => h)).trans K (fun b hb (q : b = B) => by have := h.lo; omega), h.lo⟩
theorem CS.set2 (h : CS w wk B c1 c2 c3 c4 l1 l2 l3 l4) (K2 : Kept (fun _ => False) wk w2) (ho : w2.ownsRow wk.heap.size 4 1 v' xs.length xs) : CS w (w2.setCell ⟨B, 2, none⟩ v') B c1 v' c3 c4 l1 xs l3 l4 := by
  have K := kept_set w2 B 2 v'
  have ho1 : ∀ b, c1.ownBlock = some b → b < wk.heap.size := fun b q => (ownsRow_block h.r1 q).2
  have ho3 : ∀ b, c3.ownBlock = some b → b < wk.heap.size := fun b q => (ownsRow_block h.r3 q).2
  have ho4 : ∀ b, c4.ownBlock = some b → b < wk.heap.size := fun b q => (ownsRow_block h.r4 q).2
  have hn : ∀ b, v'.ownBlock = some b → wk.heap.size ≤ b := fun b q => (ownsRow_block ho q).1
  have hB := h.hd.lt
  refine ⟨by have := RowAt.set (RowAt.same h.hd K2) (j := 2) (by simp) v'; simpa using this, ownsRow_kept (ownsRow_kept h.r1 K2 (fun _ _ _ h => h)) K (fun b _ q r => (h.a1 b q).1 r),
    ownsRow_kept (ownsRow_base ho h.kept.size) K (fun b _ q r => by have := hn b q; omega),
    ownsRow_kept (ownsRow_kept h.r3 K2 (fun _ _ _ h => h)) K (fun b _ q r => (h.a3 b q).1 r),
    ownsRow_kept (ownsRow_kept h.r4 K2 (fun _ _ _ h => h)) K (fun b _ q r => h.a4 b q r), fun b q => ⟨(h.a1 b q).1, fun z => by have := hn b z; have := ho1 b q; omega, (h.a1 b q).2.2.1, (h.a1 b q).2.2.2⟩,
    fun b q => ⟨fun z => by have := hn b q; omega, fun z => by have := hn b q; have := ho3 b z; omega, fun z => by have := hn b q; have := ho4 b z; omega⟩,
    fun b q => ⟨(h.a3 b q).1, (h.a3 b q).2⟩,
    fun b q => (h.a4 b q), (h.kept.trans K2 (fun _ _ h => h)).trans K (fun b hb (q : b = B) => by have := h.lo; omega), h.lo⟩
theorem CS.set3 (h : CS w wk B c1 c2 c3 c4 l1 l2 l3 l4) (K2 : Kept (fun _ => False) wk w2) (ho : w2.ownsRow wk.heap.size 3 1 v' xs.length xs) : CS w (w2.setCell ⟨B, 3, none⟩ v') B c1 c2 v' c4 l1 l2 xs l4 := by
  have K := kept_set w2 B 3 v'
  have ho1 : ∀ b, c1.ownBlock = some b → b < wk.heap.size := fun b q => (ownsRow_block h.r1 q).2
  have ho2 : ∀ b, c2.ownBlock = some b → b < wk.heap.size := fun b q => (ownsRow_block h.r2 q).2
  have ho4 : ∀ b, c4.ownBlock = some b → b < wk.heap.size := fun b q => (ownsRow_block h.r4 q).2
  have hn : ∀ b, v'.ownBlock = some b → wk.heap.size ≤ b := fun b q => (ownsRow_block ho q).1
  have hB := h.hd.lt
  refine ⟨by have := RowAt.set (RowAt.same h.hd K2) (j := 3) (by simp) v'; simpa using this, ownsRow_kept (ownsRow_kept h.r1 K2 (fun _ _ _ h => h)) K (fun b _ q r => (h.a1 b q).1 r),
    ownsRow_kept (ownsRow_kept h.r2 K2 (fun _ _ _ h => h)) K (fun b _ q r => (h.a2 b q).1 r),
    ownsRow_kept (ownsRow_base ho h.kept.size) K (fun b _ q r => by have := hn b q; omega),
    ownsRow_kept (ownsRow_kept h.r4 K2 (fun _ _ _ h => h)) K (fun b _ q r => h.a4 b q r), fun b q => ⟨(h.a1 b q).1, (h.a1 b q).2.1, fun z => by have := hn b z; have := ho1 b q; omega, (h.a1 b q).2.2.2⟩,
    fun b q => ⟨(h.a2 b q).1, fun z => by have := hn b z; have := ho2 b q; omega, (h.a2 b q).2.2⟩,
    fun b q => ⟨fun z => by have := hn b q; omega, fun z => by have := hn b q; have := ho4 b z; omega⟩,
    fun b q => (h.a4 b q), (h.kept.trans K2 (fun _ _ h => h)).trans K (fun b hb (q : b = B) => by have := h.lo; omega), h.lo⟩
theorem CS.set4 (h : CS w wk B c1 c2 c3 c4 l1 l2 l3 l4) (K2 : Kept (fun _ => False) wk w2) (ho : w2.ownsRow wk.heap.size 3 1 v' xs.length xs) : CS w (w2.setCell ⟨B, 4, none⟩ v') B c1 c2 c3 v' l1 l2 l3 xs := by
  have K := kept_set w2 B 4 v'
  have ho1 : ∀ b, c1.ownBlock = some b → b < wk.heap.size := fun b q => (ownsRow_block h.r1 q).2
  have ho2 : ∀ b, c2.ownBlock = some b → b < wk.heap.size := fun b q => (ownsRow_block h.r2 q).2
  have ho3 : ∀ b, c3.ownBlock = some b → b < wk.heap.size := fun b q => (ownsRow_block h.r3 q).2
  have hn : ∀ b, v'.ownBlock = some b → wk.heap.size ≤ b := fun b q => (ownsRow_block ho q).1
  have hB := h.hd.lt
  refine ⟨by have := RowAt.set (RowAt.same h.hd K2) (j := 4) (by simp) v'; simpa using this, ownsRow_kept (ownsRow_kept h.r1 K2 (fun _ _ _ h => h)) K (fun b _ q r => (h.a1 b q).1 r),
    ownsRow_kept (ownsRow_kept h.r2 K2 (fun _ _ _ h => h)) K (fun b _ q r => (h.a2 b q).1 r),
    ownsRow_kept (ownsRow_kept h.r3 K2 (fun _ _ _ h => h)) K (fun b _ q r => (h.a3 b q).1 r),
    ownsRow_kept (ownsRow_base ho h.kept.size) K (fun b _ q r => by have := hn b q; omega), fun b q => ⟨(h.a1 b q).1, (h.a1 b q).2.1, (h.a1 b q).2.2.1, fun z => by have := hn b z; have := ho1 b q; omega⟩,
    fun b q => ⟨(h.a2 b q).1, (h.a2 b q).2.1, fun z => by have := hn b z; have := ho2 b q; omega⟩,
    fun b q => ⟨(h.a3 b q).1, fun z => by have := hn b z; have := ho3 b q; omega⟩,
    fun b q => (fun z => by have := hn b q; omega), (h.kept.trans K2 (fun _ _ h => h)).trans K (fun b hb (q : b = B) => by have := h.lo; omega), h.lo⟩
set_option maxHeartbeats 8000000 in
theorem rcopy_c {w : World} {base rb : Nat} {v1 v2 v3 v4 : Value} {a : AA} (h : IsR w base rb v1 v2 v3 v4 a) (ok : AOk a) : Calls Try.prog 22 #[.pointer (some ⟨rb, 0, none⟩)] w fun e w' => ∃ rb' u1 u2 u3 u4, e = .returned (.pointer (some ⟨rb', 0, none⟩)) ∧ IsR w' w.heap.size rb' u1 u2 u3 u4 a ∧ Kept (fun _ => False) w w' := by
  have HI := Lib.hid h
  have hl := ok.len
  have hfl := ok.fll
  have C0 : CS w (w.alloc (.cells #[.bool true, .slice none 0 0, .slice none 0 0, .slice none 0 0, .slice none 0 0] 75)) w.heap.size (.slice none 0 0) (.slice none 0 0) (.slice none 0 0) (.slice none 0 0) [] [] [] [] :=
    ⟨RowAt.new w 75 #[.bool true, .slice none 0 0, .slice none 0 0, .slice none 0 0, .slice none 0 0], ⟨rfl, .inl ⟨rfl, rfl⟩⟩, ⟨rfl, .inl ⟨rfl, rfl⟩⟩, ⟨rfl, .inl ⟨rfl, rfl⟩⟩, ⟨rfl, .inl ⟨rfl, rfl⟩⟩, (fun b q => by cases q), (fun b q => by cases q), (fun b q => by cases q), (fun b q => by cases q), (Kept.refl _ _).alloc _, Nat.le_refl _⟩
  have HC0 := Lib.hid C0
  clear C0 ok h
  go_enter Try.func22, Try.ntmps22
  go_wp2_with (go_at_call 32; refine (rmade_c HI.out).mono ?_; rintro e w' ⟨rfl, rfl⟩)
  go_upto_region 4 with fail
  generalize w.alloc (.cells #[.bool true, .slice none 0 0, .slice none 0 0, .slice none 0 0, .slice none 0 0] 75) = wx at HC0 ⊢
  have HBL := Lib.hid HC0.out.lo
  obtain ⟨B, hB⟩ : ∃ B, w.heap.size = B := ⟨_, rfl⟩
  rw [hB] at HC0 ⊢
  have HC := Lib.hid HC0.out
  have hi := HI.out.same HC.out.kept
  have x1 := hi.hd.get (j := 1) rfl
  have xl := hi.hd.lt
  have b1 := HC.out.hd.get (j := 1) rfl
  have bl := HC.out.hd.lt
  have bf := HC.out.hd.fz 1
  have HUS : Hid (∀ W, Kept (fun _ => False) wx W → W.ownsRow base 2 1 v1 a.sl.length (a.sl.map fun s => Value.int .i64 s.use)) := Lib.hid fun W K => ownsRow_kept hi.uses K (fun _ _ _ h => h)
  have HON : Hid (∀ u ∈ (a.sl.map fun s => Value.int .i64 s.use), u.oneCell' = true) := Lib.hid fun u hu => by obtain ⟨y, -, rfl⟩ := List.mem_map.1 hu; rfl
  have HBW : Hid (∀ W, Kept (fun _ => False) wx W → W.cell? ⟨B, 1, none⟩ = some (.slice none 0 0) ∧ W.frozen? ⟨B, 1, none⟩ = false ∧ B < W.heap.size) := Lib.hid fun W K => ⟨(RowAt.same HC.out.hd K).get (j := 1) rfl, (RowAt.same HC.out.hd K).fz 1, (RowAt.same HC.out.hd K).lt⟩
  clear hi
  go_cut [] from 9 to 20 (fun wy => ∃ u1, CS w wy B u1 (.slice none 0 0) (.slice none 0 0) (.slice none 0 0) (a.sl.map fun s => Value.int .i64 s.use) [] [] [])
  case first =>
    go_region_law (refine step_nil rfl (.tmp 13) (.tmp 17) rfl el50 (by decide) base v1 a.sl.length (a.sl.map fun s => Value.int .i64 s.use) rfl rfl (HUS.out _ (by repeat (first | exact Kept.refl _ _ | refine Kept.alloc ?_ _ | refine Kept.drew ?_))) HON.out (by omega) ?_; intro pn cn wn on kn; have hkn : Kept (fun _ => False) wx wn := Kept.trans (by repeat (first | exact Kept.refl _ _ | refine Kept.alloc ?_ _ | refine Kept.drew ?_)) kn (fun _ _ h => h); obtain ⟨n1, n2, n3⟩ := HBW.out wn hkn; have HCN := Lib.hid (HC.out.set1 hkn (xs := (a.sl.map fun s => Value.int .i64 s.use)) (by first | (rw [List.length_map]; exact on) | (rw [List.length_map, List.length_reverse]; exact on))); clear on kn hkn)
    all_goals
      go_wp2_with fail
      go_meet
      exact ⟨_, HCN.out.same (by repeat (first | exact Kept.refl _ _ | refine Kept.alloc ?_ _ | refine Kept.drew ?_))⟩
  case rest =>
    obtain ⟨u1, hc1⟩ := hcut
    have HC := Lib.hid hc1
    clear hc1 x1 xl b1 bl bf HUS HON HBW
    obtain ⟨wx, hwx⟩ : ∃ wx : World, wx = wc := ⟨_, rfl⟩
    rw [← hwx] at HC ⊢
    clear hwx
    go_upto_region 5 with fail
    have hi := HI.out.same HC.out.kept
    have x1 := hi.hd.get (j := 2) rfl
    have xl := hi.hd.lt
    have b1 := HC.out.hd.get (j := 2) rfl
    have bl := HC.out.hd.lt
    have bf := HC.out.hd.fz 2
    have HUS : Hid (∀ W, Kept (fun _ => False) wx W → W.ownsRow base 4 1 v2 a.sl.length (a.sl.map fun s => Value.bool s.taken)) := Lib.hid fun W K => ownsRow_kept hi.tks K (fun _ _ _ h => h)
    have HON : Hid (∀ u ∈ (a.sl.map fun s => Value.bool s.taken), u.oneCell' = true) := Lib.hid fun u hu => by obtain ⟨y, -, rfl⟩ := List.mem_map.1 hu; rfl
    have HBW : Hid (∀ W, Kept (fun _ => False) wx W → W.cell? ⟨B, 2, none⟩ = some (.slice none 0 0) ∧ W.frozen? ⟨B, 2, none⟩ = false ∧ B < W.heap.size) := Lib.hid fun W K => ⟨(RowAt.same HC.out.hd K).get (j := 2) rfl, (RowAt.same HC.out.hd K).fz 2, (RowAt.same HC.out.hd K).lt⟩
    clear hi
    go_cut [] from 21 to 32 (fun wy => ∃ u2, CS w wy B u1 u2 (.slice none 0 0) (.slice none 0 0) (a.sl.map fun s => Value.int .i64 s.use) (a.sl.map fun s => Value.bool s.taken) [] [])
    case first =>
      go_region_law (refine step_nil rfl (.tmp 25) (.tmp 29) rfl el62 (by decide) base v2 a.sl.length (a.sl.map fun s => Value.bool s.taken) rfl rfl (HUS.out _ (by repeat (first | exact Kept.refl _ _ | refine Kept.alloc ?_ _ | refine Kept.drew ?_))) HON.out (by omega) ?_; intro pn cn wn on kn; have hkn : Kept (fun _ => False) wx wn := Kept.trans (by repeat (first | exact Kept.refl _ _ | refine Kept.alloc ?_ _ | refine Kept.drew ?_)) kn (fun _ _ h => h); obtain ⟨n1, n2, n3⟩ := HBW.out wn hkn; have HCN := Lib.hid (HC.out.set2 hkn (xs := (a.sl.map fun s => Value.bool s.taken)) (by first | (rw [List.length_map]; exact on) | (rw [List.length_map, List.length_reverse]; exact on))); clear on kn hkn)
      all_goals
        go_wp2_with fail
        go_meet
        exact ⟨_, HCN.out.same (by repeat (first | exact Kept.refl _ _ | refine Kept.alloc ?_ _ | refine Kept.drew ?_))⟩
    case rest =>
      obtain ⟨u2, hc2⟩ := hcut
      have HC := Lib.hid hc2
      clear hc2 x1 xl b1 bl bf HUS HON HBW
      obtain ⟨wx, hwx⟩ : ∃ wx : World, wx = wc := ⟨_, rfl⟩
      rw [← hwx] at HC ⊢
      clear hwx
      go_upto_region 6 with fail
      have hi := HI.out.same HC.out.kept
      have x1 := hi.hd.get (j := 3) rfl
      have xl := hi.hd.lt
      have b1 := HC.out.hd.get (j := 3) rfl
      have bl := HC.out.hd.lt
      have bf := HC.out.hd.fz 3
      have HUS : Hid (∀ W, Kept (fun _ => False) wx W → W.ownsRow base 3 1 v3 a.sl.length (a.sl.map fun s => Value.int .i64 s.v)) := Lib.hid fun W K => ownsRow_kept hi.vs K (fun _ _ _ h => h)
      have HON : Hid (∀ u ∈ (a.sl.map fun s => Value.int .i64 s.v), u.oneCell' = true) := Lib.hid fun u hu => by obtain ⟨y, -, rfl⟩ := List.mem_map.1 hu; rfl
      have HBW : Hid (∀ W, Kept (fun _ => False) wx W → W.cell? ⟨B, 3, none⟩ = some (.slice none 0 0) ∧ W.frozen? ⟨B, 3, none⟩ = false ∧ B < W.heap.size) := Lib.hid fun W K => ⟨(RowAt.same HC.out.hd K).get (j := 3) rfl, (RowAt.same HC.out.hd K).fz 3, (RowAt.same HC.out.hd K).lt⟩
      clear hi
      go_cut [] from 33 to 44 (fun wy => ∃ u3, CS w wy B u1 u2 u3 (.slice none 0 0) (a.sl.map fun s => Value.int .i64 s.use) (a.sl.map fun s => Value.bool s.taken) (a.sl.map fun s => Value.int .i64 s.v) [])
      case first =>
        go_region_law (refine step_nil rfl (.tmp 37) (.tmp 41) rfl el73 (by decide) base v3 a.sl.length (a.sl.map fun s => Value.int .i64 s.v) rfl rfl (HUS.out _ (by repeat (first | exact Kept.refl _ _ | refine Kept.alloc ?_ _ | refine Kept.drew ?_))) HON.out (by omega) ?_; intro pn cn wn on kn; have hkn : Kept (fun _ => False) wx wn := Kept.trans (by repeat (first | exact Kept.refl _ _ | refine Kept.alloc ?_ _ | refine Kept.drew ?_)) kn (fun _ _ h => h); obtain ⟨n1, n2, n3⟩ := HBW.out wn hkn; have HCN := Lib.hid (HC.out.set3 hkn (xs := (a.sl.map fun s => Value.int .i64 s.v)) (by first | (rw [List.length_map]; exact on) | (rw [List.length_map, List.length_reverse]; exact on))); clear on kn hkn)
        all_goals
          go_wp2_with fail
          go_meet
          exact ⟨_, HCN.out.same (by repeat (first | exact Kept.refl _ _ | refine Kept.alloc ?_ _ | refine Kept.drew ?_))⟩
      case rest =>
        obtain ⟨u3, hc3⟩ := hcut
        have HC := Lib.hid hc3
        clear hc3 x1 xl b1 bl bf HUS HON HBW
        obtain ⟨wx, hwx⟩ : ∃ wx : World, wx = wc := ⟨_, rfl⟩
        rw [← hwx] at HC ⊢
        clear hwx
        go_upto_region 7 with fail
        have hi := HI.out.same HC.out.kept
        have x1 := hi.hd.get (j := 4) rfl
        have xl := hi.hd.lt
        have b1 := HC.out.hd.get (j := 4) rfl
        have bl := HC.out.hd.lt
        have bf := HC.out.hd.fz 4
        have HUS : Hid (∀ W, Kept (fun _ => False) wx W → W.ownsRow base 3 1 v4 a.fl.length (a.fl.reverse.map fun (k : Nat) => Value.int .i64 k)) := Lib.hid fun W K => ownsRow_kept hi.frd K (fun _ _ _ h => h)
        have HON : Hid (∀ u ∈ (a.fl.reverse.map fun (k : Nat) => Value.int .i64 k), u.oneCell' = true) := Lib.hid fun u hu => by obtain ⟨y, -, rfl⟩ := List.mem_map.1 hu; rfl
        have HBW : Hid (∀ W, Kept (fun _ => False) wx W → W.cell? ⟨B, 4, none⟩ = some (.slice none 0 0) ∧ W.frozen? ⟨B, 4, none⟩ = false ∧ B < W.heap.size) := Lib.hid fun W K => ⟨(RowAt.same HC.out.hd K).get (j := 4) rfl, (RowAt.same HC.out.hd K).fz 4, (RowAt.same HC.out.hd K).lt⟩
        clear hi
        go_cut [] from 45 to 56 (fun wy => ∃ u4, CS w wy B u1 u2 u3 u4 (a.sl.map fun s => Value.int .i64 s.use) (a.sl.map fun s => Value.bool s.taken) (a.sl.map fun s => Value.int .i64 s.v) (a.fl.reverse.map fun (k : Nat) => Value.int .i64 k))
        case first =>
          go_region_law (refine step_nil rfl (.tmp 49) (.tmp 53) rfl el73 (by decide) base v4 a.fl.length (a.fl.reverse.map fun (k : Nat) => Value.int .i64 k) rfl rfl (HUS.out _ (by repeat (first | exact Kept.refl _ _ | refine Kept.alloc ?_ _ | refine Kept.drew ?_))) HON.out (by omega) ?_; intro pn cn wn on kn; have hkn : Kept (fun _ => False) wx wn := Kept.trans (by repeat (first | exact Kept.refl _ _ | refine Kept.alloc ?_ _ | refine Kept.drew ?_)) kn (fun _ _ h => h); obtain ⟨n1, n2, n3⟩ := HBW.out wn hkn; have HCN := Lib.hid (HC.out.set4 hkn (xs := (a.fl.reverse.map fun (k : Nat) => Value.int .i64 k)) (by first | (rw [List.length_map]; exact on) | (rw [List.length_map, List.length_reverse]; exact on))); clear on kn hkn)
          all_goals
            go_wp2_with fail
            go_meet
            exact ⟨_, HCN.out.same (by repeat (first | exact Kept.refl _ _ | refine Kept.alloc ?_ _ | refine Kept.drew ?_))⟩
        case rest =>
          obtain ⟨u4, hc4⟩ := hcut
          have HB := Lib.hid hB
          have HFIN : Hid (∃ rb' u1 u2 u3 u4, Ending.returned (Value.pointer (some ⟨B, 0, none⟩)) = .returned (.pointer (some ⟨rb', 0, none⟩)) ∧ IsR wc w.heap.size rb' u1 u2 u3 u4 a ∧ Kept (fun _ => False) w wc) := Lib.hid ⟨B, u1, u2, u3, u4, rfl, ⟨hc4.hd, by have := hc4.r1; simpa using this, by have := hc4.r2; simpa using this, by have := hc4.r3; simpa using this, by have := hc4.r4; simpa using this, hc4.a1, hc4.a2, hc4.a3, hc4.a4, hc4.lo⟩, hc4.kept⟩
          clear hc4
          go_wp2
          go_ret
          exact HFIN.out
end Go.Proofs.Ytokmjjjedljcpaa
