/- The function that borders hands back: it yields the groups. -/
import Derived.Test.YtaedijppbghnaaaBkB
import Derived.Test.YtaedijppbghnaaaGeRange
import Derived.Sort.QuietIn
import Derived.RegionIn
namespace Go.Proofs.Ytaedijppbghnaaa
open Go.RowKit Go.Shelf
open Bk (Sp Ev ev0 ev1 evs grp)

attribute [local go_sem] Oper.semAt_some

/-- What a round of the loop keeps. -/
def GKp (B : Nat) (v : Value) (W W' : World) : Prop := Kept (fun b => b ≠ B ∧ v.ownBlock ≠ some b) W W'

/-- How long the slice in the box is. -/
def boxLen (W : World) (B : Nat) : Nat := match W.cell? ⟨B, 0, none⟩ with | some (.slice _ n _) => n | _ => 0
/-- What lies in the box: the events r that are to come. -/
structure GSt (B : Nat) (v : Value) (s : List Ev) (W : World) (vk : Value) (r : List Ev) : Prop where
  box : RowAt W B [vk]
  trs : Trs W vk r
  own : ∀ c, vk.ownBlock = some c → v.ownBlock = some c
  sub : ∀ e ∈ r, e ∈ s
theorem GSt.kept {S : Nat → Prop} {B : Nat} {v : Value} {s : List Ev} {W W' : World} {vk : Value} {r : List Ev} (h : GSt B v s W vk r) (K : Kept S W W') (hS : ∀ b, S b → b < W.heap.size → b ≠ B ∧ v.ownBlock ≠ some b) : GSt B v s W' vk r where
  box := h.box.kept K (fun q => (hS _ q h.box.lt).1 rfl)
  trs := by
    rcases h.trs with q | ⟨b, off, cap, hq, hcap, hb, hc⟩
    · exact .inl q
    · exact .inr ⟨b, off, cap, hq, hcap, Nat.lt_of_lt_of_le hb K.size, hc.kept hb K (fun q => (hS _ q hb).2 (h.own b (by rw [hq]; rfl)))⟩
  own := h.own
  sub := h.sub
theorem GSt.len {B : Nat} {v : Value} {s : List Ev} {W : World} {vk : Value} {r : List Ev} (h : GSt B v s W vk r) : boxLen W B = r.length := by
  obtain ⟨a, cap, e⟩ := h.trs.len
  unfold boxLen
  rw [h.box.get (j := 0) rfl, e]
/-- The first of them. -/
theorem GSt.first {B : Nat} {v : Value} {s : List Ev} {W : World} {vk : Value} {e : Ev} {r : List Ev} (h : GSt B v s W vk (e :: r)) (hv : v.ownBlock ≠ some B) : ∃ C off cap, vk = .slice (some ⟨C, off, none⟩) (r.length + 1) cap ∧ r.length + 1 ≤ cap ∧ C ≠ B ∧ C < W.heap.size ∧
    W.cell? ⟨C, off, none⟩ = some (.int .i64 e.1) ∧ W.cell? ⟨C, off + 1, none⟩ = some (.int .i64 e.2.1) ∧ W.cell? ⟨C, off + 2, none⟩ = some (.int .i64 e.2.2) ∧
    (∀ a, Trs W (.slice (if cap = 1 then a else some ⟨C, off + 3, none⟩) r.length (cap - 1)) r) := by
  obtain ⟨C, off, cap, rfl, hcap, hb, hc⟩ := h.trs.pos (by simp)
  have hC : C ≠ B := fun q => hv (q ▸ h.own C rfl)
  have h0 := hc 0 e rfl
  refine ⟨C, off, cap, rfl, hcap, hC, hb, ?_, ?_, ?_, fun a => ?_⟩
  · simpa using h0.1
  · simpa using h0.2.1
  · simpa using h0.2.2
  · cases r with
    | nil => exact .inl ⟨_, _, rfl, rfl⟩
    | cons f r =>
      have hc1 : ¬ cap = 1 := by simp at hcap; omega
      rw [if_neg hc1]
      refine .inr ⟨C, off + 3, cap - 1, rfl, by simp at hcap ⊢; omega, hb, fun j x hx => ?_⟩
      have := hc (j + 1) x (by simpa using hx)
      rw [show off + (j + 1) * 3 = off + 3 + j * 3 by omega] at this
      exact this

/-- It is taken away. -/
theorem GSt.pop {B : Nat} {v : Value} {s : List Ev} {W : World} {C off cap : Nat} {e : Ev} {r : List Ev} (h : GSt B v s W (.slice (some ⟨C, off, none⟩) (r.length + 1) cap) (e :: r)) (hv : v.ownBlock ≠ some B)
    (htr : ∀ a, Trs W (.slice (if cap = 1 then a else some ⟨C, off + 3, none⟩) r.length (cap - 1)) r) (vk' : Value) (hvk : vk' = .slice (if cap = 1 then some ⟨C, off, none⟩ else some ⟨C, off + 3, none⟩) r.length (cap - 1)) :
    GSt B v s (W.setCell ⟨B, 0, none⟩ vk') vk' r := by
  have hCB : C ≠ B := fun q => hv (q ▸ h.own C rfl)
  have k1 : Kept (fun b => b = B) W (W.setCell ⟨B, 0, none⟩ vk') := (Kept.refl _ _).setCell _ _ (by simp)
  refine ⟨h.box.set (by simp) vk', ?_, ?_, fun x hx => h.sub x (.tail _ hx)⟩
  · have q := htr (some ⟨C, off, none⟩)
    rw [← hvk] at q
    refine q.kept k1 (fun b hb hp q => ?_)
    subst q
    refine hCB ?_
    rw [hvk] at hb
    split at hb <;> · simp only [Value.ownBlock, Option.some.injEq] at hb; exact hb
  · intro c hc
    refine h.own c ?_
    rw [hvk] at hc
    split at hc <;> exact hc

set_option maxRecDepth 100000 in
set_option maxHeartbeats 4000000 in
theorem gen_in (n : Nat) (hn : 1 ≤ n) (l B : Nat) (v : Value) (s : List Ev) (hs : s.length ≤ 1000000) (hb1 : ∀ e ∈ s, (-1 ≤ e.2.1 ∧ e.2.1 ≤ 1) ∧ (-1 ≤ e.2.2 ∧ e.2.2 ≤ 1)) (hv : v.ownBlock ≠ some B) (J : List Ev → World → Prop)
    (hJ : ∀ s A B', J s A → Kept (fun b => b = B) A B' → J s B')
    (hY : ∀ pre x W, J pre W → pre ++ [x] <+: grp s → YieldAt Fence.wide (n - 1) Try.prog l #[.agg #[.int .i64 x.1, .int .i64 x.2.1, .int .i64 x.2.2]] W fun e W' => e = .returned (.bool true) ∧ J (pre ++ [x]) W' ∧ GKp B v W W')
    (W : World) (hB : RowAt W B [v]) (hT : Trs W v s) (h0 : J [] W) :
    CallsIn Fence.wide n Try.prog 61 #[.func (.yield l) #[] #[], .pointer (some ⟨B, 0, none⟩)] W fun e W' => (∃ v, e = .returned v) ∧ ∃ ys, ys = grp s ∧ J ys W' := by
  refine callsIn_of_wp Try.func61 rfl trivial ?_ rfl
  simp only [Try.ntmps61, List.size_toArray, List.length_cons, List.length_nil, Nat.reduceAdd, Nat.reduceSub, Array.replicate_succ, Array.replicate_zero, List.push_toArray, List.append_toArray, List.nil_append, List.cons_append]
  gi_wp2
  gi_loopw [4] (fun _ wr => ∃ r vk pre, GSt B v s wr vk r ∧ grp s = pre ++ grp r ∧ pre.length + r.length ≤ s.length ∧ J pre wr) (fun _ wr => boxLen wr B)
  case atStart => exact ⟨s, v, [], ⟨hB, hT, fun _ h => h, fun _ h => h⟩, rfl, by simp, h0⟩
  case round =>
    obtain ⟨r, vk, pre, hg, hp, hl, hj⟩ := hrel
    cases r with
    | nil =>
      obtain ⟨a3, cap3, rfl⟩ := hg.trs.len
      have hbx := hg.box.get (j := 0) rfl
      simp only [List.length_nil] at hbx
      have HP := Lib.hid (And.intro hp hj)
      clear hg hp hl hj hB hT h0
      gi_wp2
      go_end0
      exact ⟨⟨_, rfl⟩, pre, by rw [HP.out.1]; simp [grp], HP.out.2⟩
    | cons e r =>
      obtain ⟨C, off, cap, rfl, hcap, hCB, hC, c0, c1, c2, htr⟩ := hg.first hv
      have hbx := hg.box.get (j := 0) rfl
      have hfz := hg.box.fz 0
      have hbl := hg.box.lt
      obtain ⟨e0, e1, e2⟩ := e
      have hbd := hb1 _ (hg.sub _ (.head _))
      simp only at c0 c1 c2 hbd
      obtain ⟨wa, hwa⟩ : ∃ wa : World, wa = wr := ⟨_, rfl⟩
      subst hwa
      have hst : ∀ vk', vk' = .slice (if cap = 1 then some ⟨C, off, none⟩ else some ⟨C, off + 3, none⟩) r.length (cap - 1) →
          GSt B v s ((wa.setCell ⟨B, 0, none⟩ vk').alloc (.cells #[.int .i64 e0, .int .i64 e1, .int .i64 e2] 76)) vk' r ∧ RowAt ((wa.setCell ⟨B, 0, none⟩ vk').alloc (.cells #[.int .i64 e0, .int .i64 e1, .int .i64 e2] 76)) wa.heap.size [.int .i64 e0, .int .i64 e1, .int .i64 e2] ∧
          Kept (fun b => b = B) wa ((wa.setCell ⟨B, 0, none⟩ vk').alloc (.cells #[.int .i64 e0, .int .i64 e1, .int .i64 e2] 76)) := fun vk' hvk => by
        have k1 : Kept (fun b => b = B) wa (wa.setCell ⟨B, 0, none⟩ vk') := (Kept.refl _ _).setCell _ _ (by simp)
        have hR := RowAt.new (wa.setCell ⟨B, 0, none⟩ vk') 76 #[.int .i64 e0, .int .i64 e1, .int .i64 e2]
        rw [show (wa.setCell ⟨B, 0, none⟩ vk').heap.size = wa.heap.size by simp] at hR
        exact ⟨(hg.pop hv htr vk' hvk).kept ((Kept.refl (fun _ => False) _).alloc _) (fun _ h => h.elim), hR, k1.alloc _⟩
      have HST := Lib.hid hst
      have HG := Lib.hid (And.intro hg (And.intro hp (And.intro hl hj)))
      clear hg hp hl hj hB hT h0 hst htr
      gi_wp2
      · have h3 := HST.out (.slice (some ⟨C, off, none⟩) r.length 0) (by rw [if_pos (by assumption), show cap - 1 = 0 by omega])
        generalize (wa.setCell ⟨B, 0, none⟩ (.slice (some ⟨C, off, none⟩) r.length 0)).alloc (.cells #[.int .i64 e0, .int .i64 e1, .int .i64 e2] 76) = W2 at h3 ⊢
        generalize Value.slice (some ⟨C, off, none⟩) r.length 0 = vk2 at h3 ⊢
        have H3 := Lib.hid h3
        clear h3 hbx hfz c0 c1 c2
        gi_loopw [12] (fun _ w2 => ∃ r2 vk2 x y, GSt B v s w2 vk2 r2 ∧ RowAt w2 wa.heap.size [.int .i64 e0, .int .i64 x, .int .i64 y] ∧ Kept (fun b => b = B) wa w2 ∧ grp ((e0, e1, e2) :: r) = grp ((e0, x, y) :: r2) ∧ r2.length ≤ r.length ∧
          (-(1000002 - r2.length : Int) ≤ x ∧ x ≤ 1000002 - r2.length) ∧ (-(1000002 - r2.length : Int) ≤ y ∧ y ≤ 1000002 - r2.length)) (fun _ w2 => boxLen w2 B)
        case atStart => exact ⟨r, _, e1, e2, H3.out.1, H3.out.2.1, H3.out.2.2, rfl, Nat.le_refl _, by have := HG.out.2.2.1; simp at this; omega, by have := HG.out.2.2.1; simp at this; omega⟩
        case round =>
          obtain ⟨r2, vk3, x, y, hg2, hr2, hk2, hgr, hle, hx, hy⟩ := hrel
          cases r2 with
          | nil =>
            obtain ⟨a3, cap3, rfl⟩ := hg2.trs.len
            have hb2 := hg2.box.get (j := 0) rfl
            have o0 := hr2.get (j := 0) rfl
            have o1 := hr2.get (j := 1) rfl
            have o2 := hr2.get (j := 2) rfl
            simp only [List.length_nil] at hb2
            gi_wp2
            gi_quiet (fail)
            obtain ⟨fn, tmps, assign, body, hyy, hR⟩ := hY pre (e0, x, y) (wr.drewN nq) (hJ _ _ _ HG.out.2.2.2 (hk2.drewN nq)) (by rw [HG.out.2.1, hgr]; exact ⟨[], by simp [grp]⟩)
            gi_wp2
            refine hR.mono ?_
            rintro e W3 ⟨rfl, hJ3, hK3⟩
            have g3 := (hg2.kept ((Kept.refl (fun _ => False) wr).drewN nq) (fun _ h => h.elim)).kept hK3 (fun b h _ => h)
            have G3 := Lib.hid g3
            have HGR := Lib.hid hgr
            clear g3 hg2 hr2 hb2 o0 o1 o2
            gi_wp2
            go_roundw
            case rel => exact ⟨[], _, pre ++ [(e0, x, y)], G3.out, by rw [HG.out.2.1, HGR.out, List.append_assoc]; rfl, by have := HG.out.2.2.1; simp at this ⊢; omega, hJ3⟩
            case measure => rw [G3.out.len, HG.out.1.len]; simp
          | cons f r2 =>
            obtain ⟨C2, off2, cap2, rfl, hcap2, hCB2, hC2, d0, d1, d2, htr2⟩ := hg2.first hv
            obtain rfl : C = C2 := by
              have a := HG.out.1.own C rfl
              have b := hg2.own C2 rfl
              rw [a] at b
              injection b
            have hb2 := hg2.box.get (j := 0) rfl
            have hfz2 := hg2.box.fz 0
            have o0 := hr2.get (j := 0) rfl
            have o1 := hr2.get (j := 1) rfl
            have o2 := hr2.get (j := 2) rfl
            have z1 := hr2.fz 1
            have z2 := hr2.fz 2
            have hfb := hb1 f (hg2.sub f (.head _))
            have n1 : C ≠ wa.heap.size := by omega
            have n2 : B ≠ wa.heap.size := by omega
            obtain ⟨f0, f1, f2⟩ := f
            simp only at d0 d1 d2 hfb
            by_cases hq : f0 = e0
            · subst hq
              gi_wp2
              gi_quiet (fail)
              gi_wp2
              gi_region
              gi_wp2
              gi_region
              have k5 : Kept (fun b => b = wa.heap.size) wr ((((wr.drewN (nq + 1)).setCell ⟨wa.heap.size, 1, none⟩ (.int .i64 (x + f1))).setCell ⟨wa.heap.size, 2, none⟩ (.int .i64 (y + f2))).drew) :=
                ((((Kept.refl _ wr).drewN (nq + 1)).setCell _ _ (by simp)).setCell _ _ (by simp)).drew
              have r5 : RowAt ((((wr.drewN (nq + 1)).setCell ⟨wa.heap.size, 1, none⟩ (.int .i64 (x + f1))).setCell ⟨wa.heap.size, 2, none⟩ (.int .i64 (y + f2))).drew) wa.heap.size [.int .i64 f0, .int .i64 (x + f1), .int .i64 (y + f2)] :=
                (((hr2.same ((Kept.refl _ wr).drewN (nq + 1))).set (j := 1) (by simp) (.int .i64 (x + f1))).set (j := 2) (by simp) (.int .i64 (y + f2))).same ((Kept.refl _ _).drew)
              generalize ((((wr.drewN (nq + 1)).setCell ⟨wa.heap.size, 1, none⟩ (.int .i64 (x + f1))).setCell ⟨wa.heap.size, 2, none⟩ (.int .i64 (y + f2))).drew) = W5 at k5 r5 ⊢
              have g5 := hg2.kept k5 (fun b h _ => ⟨by omega, by rw [HG.out.1.own C rfl]; intro q; injection q with q; omega⟩)
              have K5 := (hk2.trans k5 (fun i hi h => by omega))
              obtain ⟨C3, off3, cap3, hv3, hcap3, -, -, -, -, -, htr3⟩ := g5.first hv
              injection hv3 with q1 q2 q3
              injection q1 with q1
              injection q1 with q1a q1b q1c
              subst q1a q1b q3
              have hb5 := g5.box.get (j := 0) rfl
              have hz5 := g5.box.fz 0
              have H5 := Lib.hid (fun vk' hvk => g5.pop hv htr3 vk' hvk)
              have HK5 := Lib.hid (And.intro K5 r5)
              have HGR := Lib.hid hgr
              have HL2 := hg2.len
              have HL := Lib.hid HL2
              clear g5 htr3 K5 k5 r5 HL2 hg2 hr2 hb2 hfz2 o0 o1 o2 z1 z2 d0 d1 d2 hk2 htr2
              gi_wp2
              all_goals
                have h6 := H5.out _ (by first | rw [if_neg (by assumption)] | rfl)
                gi_wp2
                go_roundw
                case rel => exact ⟨r2, _, x + f1, y + f2, h6, HK5.out.2.kept ((Kept.refl (fun b => b = B) _).setCell _ _ (by simp)) (fun q => by omega), HK5.out.1.setCell _ _ (by simp), HGR.out.trans (Bk.grp_merge _ _ _ rfl), by simp at hle; omega, by simp at hx hy; omega, by simp at hx hy; omega⟩
                case measure => rw [HL.out]; rw [h6.len]; simp
            · have hqb : (f0 == e0) = false := by simpa using hq
              have HQ := Lib.hid hq
              clear hq
              gi_wp2
              gi_quiet (fail)
              obtain ⟨fn, tmps, assign, body, hyy, hR⟩ := hY pre (e0, x, y) (wr.drewN nq) (hJ _ _ _ HG.out.2.2.2 (hk2.drewN nq)) (by rw [HG.out.2.1, hgr, Bk.grp_split (e0, x, y) _ (by rintro f' r' h; injection h with h1 h2; subst h1; exact HQ.out)]; exact ⟨_, by rw [List.append_assoc]; rfl⟩)
              gi_wp2
              refine hR.mono ?_
              rintro e W3 ⟨rfl, hJ3, hK3⟩
              have g3 := (hg2.kept ((Kept.refl (fun _ => False) wr).drewN nq) (fun _ h => h.elim)).kept hK3 (fun b h _ => h)
              have G3 := Lib.hid g3
              have HGR := Lib.hid hgr
              clear g3 hg2 hr2 hb2 o0 o1 o2 d0 d1 d2 htr2
              gi_wp2
              go_roundw
              case rel => exact ⟨_, _, pre ++ [(e0, x, y)], G3.out, by rw [HG.out.2.1, HGR.out, Bk.grp_split (e0, x, y) _ (by rintro f' r' h; injection h with h1 h2; subst h1; exact HQ.out), List.append_assoc]; rfl, by have := HG.out.2.2.1; simp at this hle ⊢; omega, hJ3⟩
              case measure => rw [G3.out.len, HG.out.1.len]; simp at hle ⊢; omega
      · have h3 := HST.out (.slice (some ⟨C, off + 3, none⟩) r.length (cap - 1)) (by rw [if_neg (by assumption)])
        generalize (wa.setCell ⟨B, 0, none⟩ (.slice (some ⟨C, off + 3, none⟩) r.length (cap - 1))).alloc (.cells #[.int .i64 e0, .int .i64 e1, .int .i64 e2] 76) = W2 at h3 ⊢
        generalize Value.slice (some ⟨C, off + 3, none⟩) r.length (cap - 1) = vk2 at h3 ⊢
        have H3 := Lib.hid h3
        clear h3 hbx hfz c0 c1 c2
        gi_loopw [12] (fun _ w2 => ∃ r2 vk2 x y, GSt B v s w2 vk2 r2 ∧ RowAt w2 wa.heap.size [.int .i64 e0, .int .i64 x, .int .i64 y] ∧ Kept (fun b => b = B) wa w2 ∧ grp ((e0, e1, e2) :: r) = grp ((e0, x, y) :: r2) ∧ r2.length ≤ r.length ∧
          (-(1000002 - r2.length : Int) ≤ x ∧ x ≤ 1000002 - r2.length) ∧ (-(1000002 - r2.length : Int) ≤ y ∧ y ≤ 1000002 - r2.length)) (fun _ w2 => boxLen w2 B)
        case atStart => exact ⟨r, _, e1, e2, H3.out.1, H3.out.2.1, H3.out.2.2, rfl, Nat.le_refl _, by have := HG.out.2.2.1; simp at this; omega, by have := HG.out.2.2.1; simp at this; omega⟩
        case round =>
          obtain ⟨r2, vk3, x, y, hg2, hr2, hk2, hgr, hle, hx, hy⟩ := hrel
          cases r2 with
          | nil =>
            obtain ⟨a3, cap3, rfl⟩ := hg2.trs.len
            have hb2 := hg2.box.get (j := 0) rfl
            have o0 := hr2.get (j := 0) rfl
            have o1 := hr2.get (j := 1) rfl
            have o2 := hr2.get (j := 2) rfl
            simp only [List.length_nil] at hb2
            gi_wp2
            gi_quiet (fail)
            obtain ⟨fn, tmps, assign, body, hyy, hR⟩ := hY pre (e0, x, y) (wr.drewN nq) (hJ _ _ _ HG.out.2.2.2 (hk2.drewN nq)) (by rw [HG.out.2.1, hgr]; exact ⟨[], by simp [grp]⟩)
            gi_wp2
            refine hR.mono ?_
            rintro e W3 ⟨rfl, hJ3, hK3⟩
            have g3 := (hg2.kept ((Kept.refl (fun _ => False) wr).drewN nq) (fun _ h => h.elim)).kept hK3 (fun b h _ => h)
            have G3 := Lib.hid g3
            have HGR := Lib.hid hgr
            clear g3 hg2 hr2 hb2 o0 o1 o2
            gi_wp2
            go_roundw
            case rel => exact ⟨[], _, pre ++ [(e0, x, y)], G3.out, by rw [HG.out.2.1, HGR.out, List.append_assoc]; rfl, by have := HG.out.2.2.1; simp at this ⊢; omega, hJ3⟩
            case measure => rw [G3.out.len, HG.out.1.len]; simp
          | cons f r2 =>
            obtain ⟨C2, off2, cap2, rfl, hcap2, hCB2, hC2, d0, d1, d2, htr2⟩ := hg2.first hv
            obtain rfl : C = C2 := by
              have a := HG.out.1.own C rfl
              have b := hg2.own C2 rfl
              rw [a] at b
              injection b
            have hb2 := hg2.box.get (j := 0) rfl
            have hfz2 := hg2.box.fz 0
            have o0 := hr2.get (j := 0) rfl
            have o1 := hr2.get (j := 1) rfl
            have o2 := hr2.get (j := 2) rfl
            have z1 := hr2.fz 1
            have z2 := hr2.fz 2
            have hfb := hb1 f (hg2.sub f (.head _))
            have n1 : C ≠ wa.heap.size := by omega
            have n2 : B ≠ wa.heap.size := by omega
            obtain ⟨f0, f1, f2⟩ := f
            simp only at d0 d1 d2 hfb
            by_cases hq : f0 = e0
            · subst hq
              gi_wp2
              gi_quiet (fail)
              gi_wp2
              gi_region
              gi_wp2
              gi_region
              have k5 : Kept (fun b => b = wa.heap.size) wr ((((wr.drewN (nq + 1)).setCell ⟨wa.heap.size, 1, none⟩ (.int .i64 (x + f1))).setCell ⟨wa.heap.size, 2, none⟩ (.int .i64 (y + f2))).drew) :=
                ((((Kept.refl _ wr).drewN (nq + 1)).setCell _ _ (by simp)).setCell _ _ (by simp)).drew
              have r5 : RowAt ((((wr.drewN (nq + 1)).setCell ⟨wa.heap.size, 1, none⟩ (.int .i64 (x + f1))).setCell ⟨wa.heap.size, 2, none⟩ (.int .i64 (y + f2))).drew) wa.heap.size [.int .i64 f0, .int .i64 (x + f1), .int .i64 (y + f2)] :=
                (((hr2.same ((Kept.refl _ wr).drewN (nq + 1))).set (j := 1) (by simp) (.int .i64 (x + f1))).set (j := 2) (by simp) (.int .i64 (y + f2))).same ((Kept.refl _ _).drew)
              generalize ((((wr.drewN (nq + 1)).setCell ⟨wa.heap.size, 1, none⟩ (.int .i64 (x + f1))).setCell ⟨wa.heap.size, 2, none⟩ (.int .i64 (y + f2))).drew) = W5 at k5 r5 ⊢
              have g5 := hg2.kept k5 (fun b h _ => ⟨by omega, by rw [HG.out.1.own C rfl]; intro q; injection q with q; omega⟩)
              have K5 := (hk2.trans k5 (fun i hi h => by omega))
              obtain ⟨C3, off3, cap3, hv3, hcap3, -, -, -, -, -, htr3⟩ := g5.first hv
              injection hv3 with q1 q2 q3
              injection q1 with q1
              injection q1 with q1a q1b q1c
              subst q1a q1b q3
              have hb5 := g5.box.get (j := 0) rfl
              have hz5 := g5.box.fz 0
              have H5 := Lib.hid (fun vk' hvk => g5.pop hv htr3 vk' hvk)
              have HK5 := Lib.hid (And.intro K5 r5)
              have HGR := Lib.hid hgr
              have HL2 := hg2.len
              have HL := Lib.hid HL2
              clear g5 htr3 K5 k5 r5 HL2 hg2 hr2 hb2 hfz2 o0 o1 o2 z1 z2 d0 d1 d2 hk2 htr2
              gi_wp2
              all_goals
                have h6 := H5.out _ (by first | rw [if_neg (by assumption)] | rfl)
                gi_wp2
                go_roundw
                case rel => exact ⟨r2, _, x + f1, y + f2, h6, HK5.out.2.kept ((Kept.refl (fun b => b = B) _).setCell _ _ (by simp)) (fun q => by omega), HK5.out.1.setCell _ _ (by simp), HGR.out.trans (Bk.grp_merge _ _ _ rfl), by simp at hle; omega, by simp at hx hy; omega, by simp at hx hy; omega⟩
                case measure => rw [HL.out]; rw [h6.len]; simp
            · have hqb : (f0 == e0) = false := by simpa using hq
              have HQ := Lib.hid hq
              clear hq
              gi_wp2
              gi_quiet (fail)
              obtain ⟨fn, tmps, assign, body, hyy, hR⟩ := hY pre (e0, x, y) (wr.drewN nq) (hJ _ _ _ HG.out.2.2.2 (hk2.drewN nq)) (by rw [HG.out.2.1, hgr, Bk.grp_split (e0, x, y) _ (by rintro f' r' h; injection h with h1 h2; subst h1; exact HQ.out)]; exact ⟨_, by rw [List.append_assoc]; rfl⟩)
              gi_wp2
              refine hR.mono ?_
              rintro e W3 ⟨rfl, hJ3, hK3⟩
              have g3 := (hg2.kept ((Kept.refl (fun _ => False) wr).drewN nq) (fun _ h => h.elim)).kept hK3 (fun b h _ => h)
              have G3 := Lib.hid g3
              have HGR := Lib.hid hgr
              clear g3 hg2 hr2 hb2 o0 o1 o2 d0 d1 d2 htr2
              gi_wp2
              go_roundw
              case rel => exact ⟨_, _, pre ++ [(e0, x, y)], G3.out, by rw [HG.out.2.1, HGR.out, Bk.grp_split (e0, x, y) _ (by rintro f' r' h; injection h with h1 h2; subst h1; exact HQ.out), List.append_assoc]; rfl, by have := HG.out.2.2.1; simp at this hle ⊢; omega, hJ3⟩
              case measure => rw [G3.out.len, HG.out.1.len]; simp at hle ⊢; omega
/-- As the range wants it. -/
theorem gen_seq (n : Nat) (hn : 1 ≤ n) (B : Nat) (v : Value) (s : List Ev) (hs : s.length ≤ 1000000) (hb1 : ∀ e ∈ s, (-1 ≤ e.2.1 ∧ e.2.1 ≤ 1) ∧ (-1 ≤ e.2.2 ∧ e.2.2 ≤ 1)) (hv : v.ownBlock ≠ some B) (w : World) (hB : RowAt w B [v]) (hT : Trs w v s) :
    SeqW Fence.wide n Try.prog 61 #[.pointer (some ⟨B, 0, none⟩)] (fun x : Ev => #[.agg #[.int .i64 x.1, .int .i64 x.2.1, .int .i64 x.2.2]]) (fun b => b = B) (GKp B v) (fun ys => ys = grp s) (fun p => p <+: grp s) w := fun l J W hK hJ hY h0 =>
  gen_in n hn l B v s hs hb1 hv J hJ hY W (hB.same hK) (hT.same hK) h0
end Go.Proofs.Ytaedijppbghnaaa
