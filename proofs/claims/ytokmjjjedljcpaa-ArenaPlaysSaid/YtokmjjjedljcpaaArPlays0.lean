/- ArPlays0: texts for the statements of this seat: contracts of functions, walks, plain laws. Conditions: none. -/
import Derived.Test.YtokmjjjedljcpaaArStep
set_option linter.all false
/- Two arenas, what was copied, and the handles that were given: the state of ArenaPlays in memory. -/
namespace Go.Proofs.Ytokmjjjedljcpaa
open Go.RowKit
theorem IsR.base {w : World} {b0 b1 rb : Nat} {v1 v2 v3 v4 : Value} {a : AA} (h : IsR w b1 rb v1 v2 v3 v4 a) (hb : b0 ≤ b1) : IsR w b0 rb v1 v2 v3 v4 a :=
  ⟨h.hd, ownsRow_base h.uses hb, ownsRow_base h.tks hb, ownsRow_base h.vs hb, ownsRow_base h.frd hb, h.a1, h.a2, h.a3, h.a4, Nat.le_trans hb h.lo⟩
/-- The blocks that a step may write. -/
def TT (ab sb rb : Nat) (v1 v2 v3 v4 vg : Value) (b : Nat) : Prop := b = ab ∨ b = sb ∨ FR rb v1 v2 v3 v4 b ∨ vg.ownBlock = some b
def Old (w0 wk : World) (po pw : Value) (T : Nat → Prop) : Prop := (po = .pointer none ∧ pw = .pointer none) ∨ ∃ oab osb oc orb u1 u2 u3 u4 oa, po = .pointer (some ⟨oab, 0, none⟩) ∧ pw = .pointer (some ⟨orb, 0, none⟩) ∧ IsA wk oab osb oc oa ∧ IsR wk w0.heap.size orb u1 u2 u3 u4 oa ∧ ∀ b, (b = oab ∨ b = osb ∨ FR orb u1 u2 u3 u4 b) → ¬ T b
theorem Old.move {w0 wk w2 : World} {po pw : Value} {T T' S : Nat → Prop} (h : Old w0 wk po pw T) (K : Kept S wk w2) (hS : ∀ b, S b → T b) (hT : ∀ b, T' b → T b ∨ wk.heap.size ≤ b) : Old w0 w2 po pw T' := by
  rcases h with h | ⟨oab, osb, oc, orb, u1, u2, u3, u4, oa, e1, e2, I, R, hd⟩
  · exact .inl h
  · refine .inr ⟨oab, osb, oc, orb, u1, u2, u3, u4, oa, e1, e2, I.kept K (fun q => hd _ (.inl rfl) (hS _ q)) (fun q => hd _ (.inr (.inl rfl)) (hS _ q)), R.kept K (fun b hb q => hd b (.inr (.inr hb)) (hS _ q)), fun b hb q => ?_⟩
    rcases hT b q with r | r
    · exact hd b hb r
    · have : b < wk.heap.size := by
        rcases hb with rfl | rfl | hb
        · exact I.lta
        · exact I.lts
        · exact (R.ltF hb).1
      omega
structure Pl (w0 wk : World) (ab sb cap rb : Nat) (v1 v2 v3 v4 : Value) (aI aR : AA) (vg : Value) (G : List Int) (po pw : Value) : Prop where
  I : IsA wk ab sb cap aI
  R : IsR wk w0.heap.size rb v1 v2 v3 v4 aR
  g : wk.ownsRow w0.heap.size 2 1 vg G.length (G.map (Value.int .i64))
  la : w0.heap.size ≤ ab ∧ w0.heap.size ≤ sb
  sAR : ¬ FR rb v1 v2 v3 v4 ab ∧ ¬ FR rb v1 v2 v3 v4 sb
  sG : ∀ b, vg.ownBlock = some b → b ≠ ab ∧ b ≠ sb ∧ ¬ FR rb v1 v2 v3 v4 b
  gb : ∀ x ∈ G, x ≤ 9223372036854775807
  kept : Kept (fun _ => False) w0 wk
  old : Old w0 wk po pw (TT ab sb rb v1 v2 v3 v4 vg)
variable {w0 wk w2 w3 : World} {ab sb cap rb : Nat} {v1 v2 v3 v4 vg po pw : Value} {aI aR a2 : AA} {G : List Int}
theorem Pl.same (h : Pl w0 wk ab sb cap rb v1 v2 v3 v4 aI aR vg G po pw) (K : Kept (fun _ => False) wk w2) : Pl w0 w2 ab sb cap rb v1 v2 v3 v4 aI aR vg G po pw :=
  ⟨h.I.same K, h.R.same K, ownsRow_kept h.g K (fun _ _ _ h => h), h.la, h.sAR, h.sG, h.gb, h.kept.trans K (fun _ _ h => h), h.old.move K (fun _ q => q.elim) (fun _ q => .inl q)⟩
theorem Pl.stepA (h : Pl w0 wk ab sb cap rb v1 v2 v3 v4 aI aR vg G po pw) (I2 : IsA w2 ab sb cap a2) (K : Kept (fun b => b = ab ∨ b = sb) wk w2) : Pl w0 w2 ab sb cap rb v1 v2 v3 v4 a2 aR vg G po pw :=
  ⟨I2, h.R.kept K (fun b hb q => by
      rcases q with rfl | rfl
      · exact h.sAR.1 hb
      · exact h.sAR.2 hb), ownsRow_kept h.g K (fun b _ q r => by
      rcases r with r | r
      · exact (h.sG b q).1 r
      · exact (h.sG b q).2.1 r), h.la, h.sAR, h.sG, h.gb, h.kept.trans K (fun b hb q => by have := h.la; omega), h.old.move K (fun b q => q.elim .inl (fun q => .inr (.inl q))) (fun _ q => .inl q)⟩
theorem Pl.stepR (h : Pl w0 wk ab sb cap rb v1 v2 v3 v4 aI aR vg G po pw) (p : RPost wk w2 w0.heap.size rb v1 v2 v3 v4 a2) : ∃ v4', Pl w0 w2 ab sb cap rb v1 v2 v3 v4' aI a2 vg G po pw := by
  obtain ⟨v4', R2, K, hb⟩ := p
  have hF : ∀ b, FR rb v1 v2 v3 v4' b → FR rb v1 v2 v3 v4 b ∨ wk.heap.size ≤ b := fun b q => by
    rcases q with q | q | q | q | q
    · exact .inl (.inl q)
    · exact .inl (.inr (.inl q))
    · exact .inl (.inr (.inr (.inl q)))
    · exact .inl (.inr (.inr (.inr (.inl q))))
    · rcases hb b q with r | r
      · exact .inl (.inr (.inr (.inr (.inr r))))
      · exact .inr r
  refine ⟨v4', h.I.kept K h.sAR.1 h.sAR.2, R2, ownsRow_kept h.g K (fun b _ q r => (h.sG b q).2.2 r), h.la, ⟨fun q => ?_, fun q => ?_⟩, fun b q => ⟨(h.sG b q).1, (h.sG b q).2.1, fun r => ?_⟩, h.gb, h.kept.trans K (fun b hb q => by have := (h.R.ltF q).2; omega), h.old.move K (fun b q => .inr (.inr (.inl q))) (fun b q => ?_)⟩
  · rcases hF _ q with r | r
    · exact h.sAR.1 r
    · have := h.I.lta; omega
  · rcases hF _ q with r | r
    · exact h.sAR.2 r
    · have := h.I.lts; omega
  · rcases hF _ r with z | z
    · exact (h.sG b q).2.2 z
    · have := (ownsRow_block h.g q).2; omega
  · rcases q with q | q | q | q
    · exact .inl (.inl q)
    · exact .inl (.inr (.inl q))
    · rcases hF _ q with r | r
      · exact .inl (.inr (.inr (.inl r)))
      · exact .inr r
    · exact .inl (.inr (.inr (.inr q)))
theorem Pl.stepG {vg' : Value} {G' : List Int} (h : Pl w0 wk ab sb cap rb v1 v2 v3 v4 aI aR vg G po pw) (ho : w2.ownsRow w0.heap.size 2 1 vg' G'.length (G'.map (Value.int .i64))) (K : Kept (fun b => vg.ownBlock = some b) wk w2) (hb : ∀ b, vg'.ownBlock = some b → vg.ownBlock = some b ∨ wk.heap.size ≤ b) (hg : ∀ x ∈ G', x ≤ 9223372036854775807) : Pl w0 w2 ab sb cap rb v1 v2 v3 v4 aI aR vg' G' po pw :=
  ⟨h.I.kept K (fun q => (h.sG _ q).1 rfl) (fun q => (h.sG _ q).2.1 rfl), h.R.kept K (fun b hb q => (h.sG b q).2.2 hb), ho, h.la, h.sAR, fun b q => by
      rcases hb b q with r | r
      · exact h.sG b r
      · exact ⟨fun z => by have := h.I.lta; omega, fun z => by have := h.I.lts; omega, fun z => by have := (h.R.ltF z).1; omega⟩, hg, h.kept.trans K (fun b hb q => by have := (ownsRow_block h.g q).1; omega), h.old.move K (fun b q => .inr (.inr (.inr q))) (fun b q => by
      rcases q with q | q | q | q
      · exact .inl (.inl q)
      · exact .inl (.inr (.inl q))
      · exact .inl (.inr (.inr (.inl q)))
      · rcases hb b q with r | r
        · exact .inl (.inr (.inr (.inr r)))
        · exact .inr r)⟩
theorem Pl.copy {cb sb2 cap2 rb' : Nat} {u1 u2 u3 u4 : Value} {a : AA} (h : Pl w0 wk ab sb cap rb v1 v2 v3 v4 a a vg G po pw) (I2 : IsA w2 cb sb2 cap2 a) (K2 : Kept (fun _ => False) wk w2) (h1 : wk.heap.size ≤ cb) (h2 : wk.heap.size ≤ sb2) (R3 : IsR w3 w2.heap.size rb' u1 u2 u3 u4 a) (K3 : Kept (fun _ => False) w2 w3) :
    Pl w0 w3 cb sb2 cap2 rb' u1 u2 u3 u4 a a vg G (.pointer (some ⟨ab, 0, none⟩)) (.pointer (some ⟨rb, 0, none⟩)) := by
  have hk := h.kept.size
  have K := K2.trans K3 (fun _ _ h => h)
  have hF : ∀ b, FR rb' u1 u2 u3 u4 b → w2.heap.size ≤ b := fun b q => (R3.ltF q).2
  have hs2 := K2.size
  refine ⟨I2.same K3, R3.base (by omega), ownsRow_kept h.g K (fun _ _ _ h => h), ⟨by omega, by omega⟩, ⟨fun q => by have := hF _ q; have := I2.lta; omega, fun q => by have := hF _ q; have := I2.lts; omega⟩, fun b q => ?_, h.gb, h.kept.trans K (fun _ _ h => h), .inr ⟨ab, sb, cap, rb, v1, v2, v3, v4, a, rfl, rfl, h.I.same K, h.R.same K, fun b hb q => ?_⟩⟩
  · have h3 := (ownsRow_block h.g q).2
    exact ⟨by omega, by omega, fun z => by have := hF _ z; omega⟩
  · have h3 : b < wk.heap.size := by
      rcases hb with rfl | rfl | hb
      · exact h.I.lta
      · exact h.I.lts
      · exact (h.R.ltF hb).1
    rcases q with q | q | q | q
    · omega
    · omega
    · have := hF _ q; omega
    · rcases hb with rfl | rfl | hb
      · exact (h.sG _ q).1 rfl
      · exact (h.sG _ q).2.1 rfl
      · exact (h.sG _ q).2.2 hb
theorem put_bd {a a' : AA} (ok : AOk a) {v hd er : Int} (hp : a.put v = (a', hd, er)) : hd ≤ 9223372036854775807 := by
  unfold AA.put at hp
  have hl := ok.len
  split at hp
  · rename_i k s r hk
    injection hp with _ q
    injection q with q _
    subst q
    have hs : a.sl[k]? = some s := by
      unfold AA.pick at hk
      split at hk
      · obtain ⟨t, ht, e⟩ := Option.map_eq_some_iff.1 hk
        injection e with e1 e2
        injection e2 with e2 _
        subst e1 e2
        exact ht
      · obtain ⟨t, ht, e⟩ := Option.map_eq_some_iff.1 hk
        injection e with e1 e2
        injection e2 with e2 _
        subst e1 e2
        exact ht
    have h1 := ok.use k s hs
    have h2 := (List.getElem?_eq_some_iff.1 hs).1
    omega
  · injection hp with _ q
    injection q with q _
    omega
end Go.Proofs.Ytokmjjjedljcpaa
