/- WhNx: texts for the statements of this seat: contracts of functions, walks, plain laws. Conditions: none. -/
import Derived.Test.YtjlcchjcppkbjaaDoorWhIn
set_option linter.all false
/- Next. -/
namespace Go.Proofs.YtjlcchjcppkbjaaDoor
open Go.RowKit
variable {w w' : World} {base wb ab sb cap mb : Nat} {kd kd' : Nat → Nat} {fr now seq : Int} {a a' : AA} {ts : List Pt}
theorem next_empty (h : WMem w base wb ab sb cap mb kd fr now seq a [] []) : Calls Tryd.prog 25 #[.pointer (some ⟨wb, 0, none⟩)] w fun e w' => e = .returned (.tuple #[.int .i64 0, .bool false]) ∧ w' = w := by
  have HL := Lib.hid (len_c h)
  clear h
  simp only [List.length_nil] at HL
  go_enter Tryd.func25, Tryd.ntmps25
  go_wp2_with (go_at_call 16; refine HL.out.mono ?_; rintro e w' ⟨rfl, rfl⟩)
  go_ret2
  exact ⟨rfl, rfl⟩
/-- Of the first list the least timer, which is the least of all. -/
def LeastPost (w : World) (ts : List Pt) (e : Ending) (w' : World) : Prop := ∃ t ∈ ts, (∀ u ∈ ts, ¬ u.x.lt t.x) ∧ e = .returned (.tuple #[.int .i64 t.x.at_, .bool true]) ∧ Kept (fun _ => False) w w'
set_option maxRecDepth 100000 in
set_option maxHeartbeats 1000000 in
theorem next_some_c (hT : Tab w) (h : WMem w base wb ab sb cap mb kd fr now seq a ts ts) (hne : ts ≠ []) (hts : ts.length ≤ 4096) (hf0 : 0 ≤ fr) (hf1 : fr ≤ 4611686018427387905) :
    Calls Tryd.prog 25 #[.pointer (some ⟨wb, 0, none⟩)] w (LeastPost w ts) := by
  have HL := Lib.hid (len_c h)
  obtain ⟨V, Q, C, M⟩ := h.core
  have HFI := Lib.hid (first_c hT C M hf0 hf1 (by omega))
  have lw := h.ltw
  have c265 := C.R.cell 256 (by omega)
  rw [show off 256 = 265 from rfl] at c265
  have HMIN : Hid (∀ i, i < 257 → Q i ≠ [] → (∀ t ∈ Q i, ∀ u ∈ ts, u ∉ Q i → t.x.at_ < u.x.at_) → ∀ W, Kept (fun _ => False) w W → Calls Tryd.prog 52 #[V i, .func (.func 46) #[] #[]] W fun e W' => ∃ t ∈ ts, (∀ u ∈ ts, ¬ u.x.lt t.x) ∧ e = .returned (.pointer (some ⟨t.b, 0, none⟩)) ∧ W'.cell? ⟨t.b, 0, none⟩ = some (.int .i64 t.x.at_) ∧ t.b < W'.heap.size ∧ Kept (fun _ => False) w W') := Lib.hid fun i hi hqi hleast W K => by
    have hnd : (Q i).Nodup := List.Pairwise.of_map Pt.b (fun a b h e => h (by rw [e])) (C.R.nd i hi)
    have hl := Nat.le_trans (len_sub hnd (fun x hx => (M.at hi hx).1)) hts
    have hkey : ∀ t ∈ Q i, TmKey W t ∧ (V i).ownBlock ≠ some t.b := fun t ht => by
      have hk := (C.R.tm i hi t ht).key
      exact ⟨⟨(K.cell (a := ⟨t.b, 0, none⟩) hk.lt (fun h => h)).trans hk.at_, (K.cell (a := ⟨t.b, 3, none⟩) hk.lt (fun h => h)).trans hk.seq, Nat.lt_of_lt_of_le hk.lt K.size⟩, fun e => by have h1 := C.R.kV i hi _ e; have h2 := C.R.kT i hi t ht; omega⟩
    refine (minP_c (Q i) (by omega) hqi (ownsRow_kept (C.R.row i hi) K (fun _ _ _ h => h)) hkey).mono ?_
    rintro e W' ⟨t, ht, rfl, hmin, K2⟩
    have htt := (M.at hi ht).1
    have hk := (hkey t ht).1
    refine ⟨t, htt, fun u hu => ?_, rfl, (K2.cell (a := ⟨t.b, 0, none⟩) hk.lt (fun h => h)).trans hk.at_, Nat.lt_of_lt_of_le hk.lt K2.size, K.trans K2 (fun _ _ h => h)⟩
    by_cases hm : u ∈ Q i
    · exact hmin u hm
    · have := hleast t ht u hu hm
      unfold Tm.lt; omega
  have HV : Hid (∀ i, i < 256 → ∀ W, Kept (fun _ => False) w W → W.cell? ⟨wb, 5 + i, none⟩ = some (V i)) := Lib.hid fun i hi W K => by
    have h1 := C.R.cell i (by omega)
    unfold off at h1
    rw [if_pos hi] at h1
    exact (K.cell (a := ⟨wb, 5 + i, none⟩) lw (fun h => h)).trans h1
  have j1 : ((ts.length : Int) == 0) = false := by simp; exact hne
  have HNE := Lib.hid hne
  have hrow := C.R.row 256 (by omega)
  clear h C M hT hne hts
  go_enter Tryd.func25, Tryd.ntmps25
  go_wp2_with (first | (go_at_call 16; refine HL.out.mono ?_; rintro e w' ⟨rfl, rfl⟩))
  refine HFI.out.mono ?_
  rintro e w2 ⟨hf, K2⟩
  rcases hf with ⟨hz, -⟩ | ⟨L, s, at_, FO, rfl⟩
  · exact absurd hz HNE.out
  · have lw2 := Nat.lt_of_lt_of_le lw K2.size
    by_cases hL : L = 4
    · subst hL
      have hs := FO.hs4 rfl
      subst hs
      have HM := Lib.hid (HMIN.out 256 (by omega) FO.ne FO.least w2 K2)
      clear FO HNE
      generalize V 256 = v at *
      go_wp2_with (go_at_call 52; refine HM.out.mono ?_; rintro e w3 ⟨t, ht, hmin, rfl, t0, tl, K3⟩; have HX : Hid (LeastPost _ ts (.returned (.tuple #[.int .i64 t.x.at_, .bool true])) w3) := Lib.hid ⟨t, ht, hmin, rfl, K3⟩; clear ht hmin K3)
      go_ret2
      exact HX.out
    · have hL4 := FO.hL
      have hs := FO.hs
      have e1 : plc L s = 64 * L + s := by unfold plc; rw [if_neg hL]
      have hne2 := FO.ne
      have hle2 := FO.least
      rw [e1] at hne2 hle2
      have HM := Lib.hid (HMIN.out (64 * L + s) (by omega) hne2 hle2 w2 K2)
      have hv := HV.out (64 * L + s) (by omega) w2 K2
      rw [show 5 + (64 * L + s) = 5 + L * 64 + s by omega] at hv
      have i1 : (0 : Int) ≤ (L : Int) := by omega
      have i2 : (L : Int) < 4 := by omega
      have i3 : (0 : Int) ≤ (s : Int) := by omega
      have i4 : (s : Int) < 64 := by omega
      have b1 : ((L : Int) != 4) = true := by simp; omega
      have b2 : ((L : Int) == 4) = false := by simp; omega
      clear FO HNE hne2 hle2 e1 hL
      generalize V (64 * L + s) = v at hv HM
      go_wp2_with (go_at_call 52; refine HM.out.mono ?_; rintro e w3 ⟨t, ht, hmin, rfl, t0, tl, K3⟩; have HX : Hid (LeastPost _ ts (.returned (.tuple #[.int .i64 t.x.at_, .bool true])) w3) := Lib.hid ⟨t, ht, hmin, rfl, K3⟩; clear ht hmin K3)
      go_ret2
      exact HX.out
theorem next_c {W : Wh} (hT : Tab w) (h : IsW w base wb kd W) {n : Int} {b : Bool} (hp : W.next = (n, b)) :
    Calls Tryd.prog 25 #[.pointer (some ⟨wb, 0, none⟩)] w fun e w' => e = .returned (.tuple #[.int .i64 n, .bool b]) ∧ Kept (fun _ => False) w w' := by
  obtain ⟨ok, ab, sb, cap, mb, ts, M, hts⟩ := h
  have hnow := ok.now
  have hN : NEVER = 4611686018427387904 := rfl
  have hlen : ts.length ≤ 4096 := by have := ok.short; rw [← hts, List.length_map] at this; exact this
  cases ts with
  | nil =>
    have hl : W.l = [] := by rw [← hts]; rfl
    unfold Wh.next at hp
    rw [hl] at hp
    injection hp with e1 e2
    subst e1 e2
    refine (next_empty M).mono ?_
    rintro e w' ⟨rfl, rfl⟩
    exact ⟨rfl, Kept.refl _ _⟩
  | cons t0 r =>
    have hl : W.l = t0.x :: r.map Pt.x := by rw [← hts]; rfl
    unfold Wh.next at hp
    rw [hl] at hp
    injection hp with e1 e2
    subst e1 e2
    refine (next_some_c hT M (by simp) hlen (by omega) (by omega)).mono ?_
    rintro e w' ⟨t, ht, hmin, rfl, K⟩
    refine ⟨?_, K⟩
    have hsrt := ok.sorted
    rw [hl, List.pairwise_cons] at hsrt
    have h1 := hmin t0 (by simp)
    rcases List.mem_cons.1 ht with rfl | hm
    · rfl
    · exact absurd (hsrt.1 t.x (List.mem_map.2 ⟨t, hm, rfl⟩)) h1
end Go.Proofs.YtjlcchjcppkbjaaDoor
/- sorted: all timers of the map, in order. -/
namespace Go.Proofs.YtjlcchjcppkbjaaDoor
open Go.RowKit
theorem sort_unique : ∀ {l d : List Pt}, l.Pairwise (fun x y => x.x.lt y.x) → d.Pairwise (fun x y => ¬ y.x.lt x.x) → d.Perm l → d = l
  | [], d, _, _, hp => List.Perm.eq_nil hp
  | x :: l, d, hl, hd, hp => by
    cases d with
    | nil => exact absurd hp.symm (by simp)
    | cons y d =>
      rw [List.pairwise_cons] at hl hd
      have hxy : y = x := by
        have h1 : y ∈ x :: l := hp.mem_iff.1 (by simp)
        have h2 : x ∈ y :: d := hp.mem_iff.2 (by simp)
        rcases List.mem_cons.1 h1 with q | q
        · exact q
        · rcases List.mem_cons.1 h2 with r | r
          · exact r.symm
          · exact absurd (hl.1 y q) (hd.1 x r)
      subst hxy
      rw [sort_unique hl.2 hd.2 (List.Perm.cons_inv hp)]
theorem handle_inj : ∀ {l : List Pt}, (l.map fun t => t.x.h).Nodup → ∀ {p t : Pt}, p ∈ l → t ∈ l → p.x.h = t.x.h → p = t
  | [], _, p, t, hp, _, _ => by simp at hp
  | u :: l, hn, p, t, hp, ht, e => by
    rw [List.map_cons, List.nodup_cons] at hn
    rcases List.mem_cons.1 hp with hp | hp <;> rcases List.mem_cons.1 ht with ht | ht
    · rw [hp, ht]
    · exact absurd (List.mem_map.2 ⟨t, ht, by rw [← e, hp]⟩) hn.1
    · exact absurd (List.mem_map.2 ⟨p, hp, by rw [e, ht]⟩) hn.1
    · exact handle_inj hn.2 hp ht e
/-- The timers that the range has met. -/
structure SrtI (w : World) (mb n : Nat) (ts : List Pt) (v : Value) (ps : List Pt) (cnt : Nat) (wr : World) : Prop where
  rg : RangeOf Tryd.prog 30 readB datB wr mb w.heap.size n (gm ts) (ps.map fun t => t.x.h) cnt
  row : wr.ownsRow (w.heap.size + 1) 90 1 v ps.length (ps.map ptr)
  mem : ∀ p ∈ ps, p ∈ ts
  kept : Kept (fun _ => False) w wr
  size : w.heap.size + 1 ≤ wr.heap.size
  len : ps.length ≤ 4096
variable {w w' : World} {base wb ab sb cap mb : Nat} {kd kd' : Nat → Nat} {fr now seq : Int} {a a' : AA} {ts : List Pt}
theorem SrtI.nodup {n cnt : Nat} {v : Value} {ps : List Pt} {wr : World} (h : SrtI w mb n ts v ps cnt wr) : ps.Nodup := by
  obtain ⟨_, _, _, _, _, h4, _⟩ := h.rg
  exact List.Pairwise.of_map (fun t : Pt => t.x.h) (fun a b h e => h (by rw [e])) h4
def SortedPost (w : World) (ts : List Pt) (e : Ending) (w' : World) : Prop := ∃ v, e = .returned v ∧ Ptrs w' v ts ∧ Kept (fun _ => False) w w' ∧ ∀ b, v.ownBlock = some b → w.heap.size ≤ b
set_option maxRecDepth 100000 in
set_option maxHeartbeats 4000000 in
theorem sorted_c (h : WMem w base wb ab sb cap mb kd fr now seq a ts ts) (hts : ts.length ≤ 4096) (hsrt : (ts.map Pt.x).Pairwise Tm.lt) (hnd : (ts.map fun t => t.x.h).Nodup) (hh : ∀ t ∈ ts, 0 ≤ t.x.h ∧ t.x.h ≤ 8796093026303) :
    Calls Tryd.prog 51 #[.pointer (some ⟨wb, 0, none⟩)] w (SortedPost w ts) := by
  have c4 := h.c4
  have lw := h.ltw
  obtain ⟨n, hn, hm⟩ := h.map
  have HM := Lib.hid hm.of
  have hmb := hm.lt
  have HKEY : Hid (∀ t ∈ ts, TmKey w t) := Lib.hid fun t ht => (h.tm ht).2.key
  have HND := Lib.hid hnd
  have HWF : Hid (∀ t ∈ ts, Wf t.x.h) := Lib.hid fun t ht => Wf.of (by have := hh t ht; omega) (by have := hh t ht; omega)
  have HTS := Lib.hid hts
  have HSR : Hid (∀ d : List Pt, d.Perm ts → d.Pairwise (fun x y => ¬ y.x.lt x.x) → d = ts) := Lib.hid fun d hp hd => sort_unique (by rw [List.pairwise_map] at hsrt; exact hsrt) hd hp
  have HNN : Hid (ts.Nodup) := Lib.hid (List.Pairwise.of_map (fun t : Pt => t.x.h) (fun a b h e => h (by rw [e])) hnd)
  clear h hm hts hsrt hnd hn hh
  go_enter Tryd.func51, Tryd.ntmps51
  go_wp2_with (at_range; refine wpList_range_of rfl _ 76 rfl 90 Tryd.underlying30 Tryd.underlying76 mb n _ rfl HM.out ?_; intro w0 cnt hrg hcnt K0 hs0)
  have HI0 : Hid (SrtI w mb n ts (.slice none 0 0) [] cnt w0) := Lib.hid ⟨hrg, ⟨rfl, .inl ⟨rfl, rfl⟩⟩, fun p hp => by simp at hp, K0, by omega, by simp⟩
  clear hrg K0 hs0 hcnt c4
  try go_frame
  go_loopw [3] (fun s3 wr => ∃ (v : Value) (ps : List Pt) (cn : Nat), s3 = v ∧ SrtI w mb n ts v ps cn wr) (fun _ wr => wr.rangeLeft mb w.heap.size)
  case atStart => exact ⟨_, [], cnt, rfl, HI0.out⟩
  case round =>
    obtain ⟨v, ps, cn, rfl, hki⟩ := hrel
    have HKI := Lib.hid hki
    obtain ⟨pp, pc, rfl⟩ := own_sl hki.row
    clear hki HI0
    go_wp2_with (at_next; refine wpList_next_of codeB rfl _ rfl Tryd.underlying30 mb w.heap.size n _ (ps.map fun t => t.x.h) cn rfl HKI.out.rg ?_ ?_)
    · intro hc0 hall
      have hperm : ps.Perm ts := (List.perm_ext_iff_of_nodup HKI.out.nodup HNN.out).2 fun t => ⟨HKI.out.mem t, fun ht => by
        obtain ⟨_, _, _, _, _, _, h5⟩ := HKI.out.rg
        have h1 := hall t.x.h (HWF.out t ht) (by rw [gm_mem HND.out ht]; rfl)
        obtain ⟨p, hp, e⟩ := h1
        rw [← handle_inj HND.out (HKI.out.mem p hp) ht e]
        exact hp⟩
      have hlp : ps.length ≤ 4096 := HKI.out.len
      have HS : Hid (Calls Tryd.prog 45 #[.slice pp ps.length pc, .func (.func 46) #[] #[]] wr fun e w' => e = .returned (.tuple #[]) ∧ SortedPost w ts (.returned (.slice pp ps.length pc)) w') := Lib.hid (by
        refine (sortP_c ps (by omega) HKI.out.row (fun t ht => ?_)).mono ?_
        · have hk := HKEY.out t (HKI.out.mem t ht)
          have K := HKI.out.kept
          exact ⟨⟨(K.cell (a := ⟨t.b, 0, none⟩) hk.lt (fun h => h)).trans hk.at_, (K.cell (a := ⟨t.b, 3, none⟩) hk.lt (fun h => h)).trans hk.seq, Nat.lt_of_lt_of_le hk.lt K.size⟩, fun e => by have := (ownsRow_block HKI.out.row e).1; have := hk.lt; omega⟩
        · rintro e w' ⟨rfl, d, hp, hd, hr, K⟩
          have hdt := HSR.out d (hp.trans hperm) hd
          subst hdt
          exact ⟨rfl, _, rfl, hr, HKI.out.kept.trans K (fun b hb q => by have := (ownsRow_block HKI.out.row q).1; omega), fun b e => by have := (ownsRow_block HKI.out.row e).1; omega⟩)
      clear hc0 hall hperm
      go_wp2_with (go_at_call 45; refine HS.out.mono ?_; rintro e w' ⟨rfl, hfin⟩)
      go_ret
      exact hfin
    · intro s x w1 cn1 hws hsn hgx hrg1 hlt K1 hs1 hen
      obtain ⟨t, ht, hts, rfl⟩ := gm_some hgx
      subst hts
      have hen' : (Instr.entry (.pointer (some ⟨w.heap.size, 0, none⟩))).run Tryd.prog w1 = .ok (.tuple #[.int .i64 t.x.h, .pointer (some ⟨t.b, 0, none⟩)]) w1 := hen
      have q2 := HKI.out.row
      have hob := fun b (hb : (Value.slice pp ps.length pc).ownBlock = some b) => ownsRow_block q2 hb
      have p1 := ownsRow_kept q2 K1 (fun b hb hv e => by omega)
      have HP1 := Lib.hid p1
      have HK1 := Lib.hid K1
      have HRG := Lib.hid hrg1
      have hmem : ∀ p ∈ ps ++ [t], p ∈ ts := fun p hp => by
        rcases List.mem_append.1 hp with q | q
        · exact HKI.out.mem p q
        · simp at q; rw [q]; exact ht
      have HMEM := Lib.hid hmem
      have hnd2 : (ps ++ [t]).Nodup := by
        rw [List.nodup_append]
        refine ⟨HKI.out.nodup, by simp, fun p hp q hq e => ?_⟩
        simp at hq
        subst hq e
        exact hsn p hp rfl
      have HLEN : Hid ((ps ++ [t]).length ≤ 4096) := Lib.hid (Nat.le_trans (len_sub hnd2 hmem) HTS.out)
      have HSZ : Hid (w.heap.size + 1 ≤ w1.heap.size) := Lib.hid (by rw [hs1]; exact HKI.out.size)
      have HKW : Hid (Kept (fun _ => False) w w1) := Lib.hid (HKI.out.kept.trans K1 (fun i hi e => by omega))
      have HCN := Lib.hid hlt
      have hml : ps.length ≤ 4096 := HKI.out.len
      clear p1 K1 hrg1 hlt hs1 q2 hgx hws hsn hen hmem hnd2 ht
      go_wp2_with (at_builtin; refine wpList_app2 el77 rfl (.tmp 15) (.tmp 17) rfl (w.heap.size + 1) _ ps.length (ps.map ptr) rfl HP1.out (news := [ptr t]) rfl rfl (ptr_one t) (by unfold maxLen; omega) (by omega) HSZ.out ?_; intro g cg w5 hown5 K5 hor; have HK5 := Lib.hid K5; have HW5 := Lib.hid hown5; have HOR := Lib.hid hor; clear K5 hown5 hor)
      have HNX : Hid (SrtI w mb n ts (.slice (some ⟨g, 0, none⟩) (ps.length + 1) cg) (ps ++ [t]) cn1 w5) := Lib.hid (by
        have hl1 := HRG.out.lt
        refine ⟨?_, ?_, HMEM.out, HKW.out.trans HK5.out (fun b hb q => by have := hob b q; omega), Nat.le_trans HSZ.out HK5.out.size, HLEN.out⟩
        · rw [List.map_append]
          exact HRG.out.kept HK5.out (fun q => by have := hob mb q; omega) (fun q => by have := hob w.heap.size q; omega)
        · rw [List.length_append, List.map_append]; exact HW5.out)
      go_wp2
      go_roundw
      case rel => exact ⟨_, ps ++ [t], cn1, rfl, HNX.out⟩
      case measure => rw [HNX.out.rg.left, HKI.out.rg.left]; exact HCN.out
end Go.Proofs.YtjlcchjcppkbjaaDoor
