/- WhDo: texts for the statements of this seat: contracts of functions, walks, plain laws. Conditions: none. -/
import Derived.Deep.RegionHeld3
import Derived.Test.YtjlcchjcppkbjaaDoorWhDu
import Derived.Test.YtjlcchjcppkbjaaDoorWaRAll
import Derived.Test.YtjlcchjcppkbjaaDoorGeStepR
import Derived.Test.YtjlcchjcppkbjaaDoorWhSt
import Derived.Test.YtjlcchjcppkbjaaDoorWhNil
set_option linter.all false
/- The document's wheel in memory; contracts of the functions that read it. -/
namespace Go.Proofs.YtjlcchjcppkbjaaDoor
open Go.RowKit
/-- The document's wheel W at block db; its blocks are those of P. -/
structure DW (w : World) (base db : Nat) (vL : Value) (rb : Nat) (v1 v2 v3 v4 : Value) (W : Wh) : Prop where
  hd : RowAt w db [.bool true, .int .i64 W.now, vL, .pointer (some ⟨rb, 0, none⟩)]
  rows : Rows tmC 3 w vL W.l
  ar : IsR w base rb v1 v2 v3 v4 W.a
  lo : base ≤ db
  own : ∀ b, vL.ownBlock = some b → base ≤ b ∧ b < w.heap.size ∧ b ≠ db ∧ ¬ FR rb v1 v2 v3 v4 b
  apart : ¬ FR rb v1 v2 v3 v4 db
def DP (db : Nat) (vL : Value) (rb : Nat) (v1 v2 v3 v4 : Value) (b : Nat) : Prop := b = db ∨ vL.ownBlock = some b ∨ FR rb v1 v2 v3 v4 b
theorem DW.lt {w : World} {base db rb : Nat} {vL v1 v2 v3 v4 : Value} {W : Wh} (h : DW w base db vL rb v1 v2 v3 v4 W) {b : Nat} (hb : DP db vL rb v1 v2 v3 v4 b) : base ≤ b ∧ b < w.heap.size := by
  rcases hb with rfl | q | q
  · exact ⟨h.lo, h.hd.lt⟩
  · have := h.own b q; exact ⟨this.1, this.2.1⟩
  · have := h.ar.ltF q; exact ⟨this.2, this.1⟩
theorem DW.kept {S : Nat → Prop} {w w' : World} {base db rb : Nat} {vL v1 v2 v3 v4 : Value} {W : Wh} (h : DW w base db vL rb v1 v2 v3 v4 W) (K : Kept S w w') (hS : ∀ b, DP db vL rb v1 v2 v3 v4 b → ¬ S b) : DW w' base db vL rb v1 v2 v3 v4 W :=
  ⟨RowAt.kept h.hd K (hS _ (.inl rfl)), h.rows.kept K (fun b q _ => hS b (.inr (.inl q))), h.ar.kept K (fun b q => hS b (.inr (.inr q))), h.lo, fun b q => by have := h.own b q; exact ⟨this.1, Nat.lt_of_lt_of_le this.2.1 K.size, this.2.2⟩, h.apart⟩
theorem DW.same {w w' : World} {base db rb : Nat} {vL v1 v2 v3 v4 : Value} {W : Wh} (h : DW w base db vL rb v1 v2 v3 v4 W) (K : Kept (fun _ => False) w w') : DW w' base db vL rb v1 v2 v3 v4 W := h.kept K (fun _ _ h => h)
theorem DW.base {w : World} {base b0 db rb : Nat} {vL v1 v2 v3 v4 : Value} {W : Wh} (h : DW w base db vL rb v1 v2 v3 v4 W) (hb : b0 ≤ base) : DW w b0 db vL rb v1 v2 v3 v4 W :=
  ⟨h.hd, h.rows, ⟨h.ar.hd, ownsRow_base h.ar.uses hb, ownsRow_base h.ar.tks hb, ownsRow_base h.ar.vs hb, ownsRow_base h.ar.frd hb, h.ar.a1, h.ar.a2, h.ar.a3, h.ar.a4, Nat.le_trans hb h.ar.lo⟩, Nat.le_trans hb h.lo, fun b q => by have := h.own b q; exact ⟨Nat.le_trans hb this.1, this.2⟩, h.apart⟩
variable {w w' : World} {base db rb : Nat} {vL v1 v2 v3 v4 : Value} {W : Wh}
theorem dvalid_c (h : DW w base db vL rb v1 v2 v3 v4 W) : Calls Tryd.prog 55 #[.pointer (some ⟨db, 0, none⟩)] w fun e w' => e = .returned (.bool true) ∧ w' = w := by
  have c0 := h.hd.get (j := 0) rfl
  have cl := h.hd.lt
  clear h
  go_enter Tryd.func55, Tryd.ntmps55
  go_wp2
  go_ret
  exact ⟨rfl, rfl⟩
theorem dnow_c (h : DW w base db vL rb v1 v2 v3 v4 W) : Calls Tryd.prog 34 #[.pointer (some ⟨db, 0, none⟩)] w fun e w' => e = .returned (.int .i64 W.now) ∧ w' = w := by
  have HV := Lib.hid (dvalid_c h)
  have c1 := h.hd.get (j := 1) rfl
  have cl := h.hd.lt
  clear h
  go_enter Tryd.func34, Tryd.ntmps34
  go_wp2_with (go_at_call 55; refine HV.out.mono ?_; rintro e w' ⟨rfl, hww⟩; obtain rfl := hww.symm)
  go_ret
  exact ⟨rfl, rfl⟩
theorem dlen_c (h : DW w base db vL rb v1 v2 v3 v4 W) : Calls Tryd.prog 35 #[.pointer (some ⟨db, 0, none⟩)] w fun e w' => e = .returned (.int .i64 W.l.length) ∧ w' = w := by
  have HV := Lib.hid (dvalid_c h)
  have c2 := h.hd.get (j := 2) rfl
  have cl := h.hd.lt
  obtain ⟨p, c, rfl⟩ := h.rows.len
  clear h
  go_enter Tryd.func35, Tryd.ntmps35
  go_wp2_with (go_at_call 55; refine HV.out.mono ?_; rintro e w' ⟨rfl, hww⟩; obtain rfl := hww.symm)
  go_ret
  exact ⟨rfl, rfl⟩
theorem droom_c (h : DW w base db vL rb v1 v2 v3 v4 W) (ok : WOk W) : Calls Tryd.prog 36 #[.pointer (some ⟨db, 0, none⟩)] w fun e w' => e = .returned (.int .i64 W.a.room) ∧ Kept (fun _ => False) w w' := by
  have HV := Lib.hid (dvalid_c h)
  have HR := Lib.hid (rroom_c h.ar ok.inv.toAOk)
  have c3 := h.hd.get (j := 3) rfl
  have cl := h.hd.lt
  clear h ok
  go_enter Tryd.func36, Tryd.ntmps36
  go_wp2_with (first | (go_at_call 55; refine HV.out.mono ?_; rintro e w' ⟨rfl, hww⟩; obtain rfl := hww.symm) | (go_at_call 59; refine HR.out.mono ?_; rintro e w' ⟨rfl, K⟩; have HK := Lib.hid K; clear K))
  go_ret
  exact ⟨rfl, HK.out⟩
theorem dnext_c (h : DW w base db vL rb v1 v2 v3 v4 W) {n : Int} {b : Bool} (hp : W.next = (n, b)) : Calls Tryd.prog 33 #[.pointer (some ⟨db, 0, none⟩)] w fun e w' => e = .returned (.tuple #[.int .i64 n, .bool b]) ∧ w' = w := by
  have HV := Lib.hid (dvalid_c h)
  have c2 := h.hd.get (j := 2) rfl
  have cl := h.hd.lt
  have hcase : W.l = [] ∨ ∃ x r, W.l = x :: r := by
    cases W.l with
    | nil => exact .inl rfl
    | cons x r => exact .inr ⟨x, r, rfl⟩
  have hr := h.rows
  rcases hcase with hnil | ⟨x, r, hcons⟩
  · rw [wnext_nil hnil] at hp
    injection hp with e1 e2
    subst e1 e2
    obtain ⟨p, c, rfl⟩ := hr.len
    rw [hnil] at c2
    simp only [List.length_nil] at c2
    clear h hr
    go_enter Tryd.func33, Tryd.ntmps33
    go_wp2_with (go_at_call 55; refine HV.out.mono ?_; rintro e w' ⟨rfl, hww⟩; obtain rfl := hww.symm)
    go_ret2
    exact ⟨rfl, rfl⟩
  · have hn : W.next = (x.at_, true) := by unfold Wh.next; rw [hcons]
    rw [hn] at hp
    injection hp with e1 e2
    subst e1 e2
    obtain ⟨b0, off0, c0, rfl, ⟨a0, -, -⟩, bl, -⟩ := tm_at hr (k := 0) (x := x) (by rw [hcons]; rfl)
    rw [Nat.zero_mul, Nat.add_zero] at a0
    have dz : ((W.l.length : Int) == 0) = false := by simp only [beq_eq_false_iff_ne, ne_eq]; rw [hcons, List.length_cons]; omega
    have dp : (0 : Int) < (W.l.length : Int) := by rw [hcons, List.length_cons]; omega
    clear h hr hcons hn
    go_enter Tryd.func33, Tryd.ntmps33
    go_wp2_with (go_at_call 55; refine HV.out.mono ?_; rintro e w' ⟨rfl, hww⟩; obtain rfl := hww.symm)
    go_ret2
    exact ⟨rfl, rfl⟩
end Go.Proofs.YtjlcchjcppkbjaaDoor
/- What the document's wheel is behind a new list of timers. -/
namespace Go.Proofs.YtjlcchjcppkbjaaDoor
open Go.RowKit
theorem Tryd.info114 : (Tryd.prog.info? 114).map (fun i => (i.zero, i.size, i.bytes)) = some (some (.agg #[.int .i64 0, .int .i64 0, .int .i64 0]), 3, 24) := by kernel_rfl
theorem el109 : ElemOk Tryd.prog 109 114 3 24 := .mk' Tryd.underlying109 Tryd.info114 rfl (by decide)
def OwnM (w : World) (base : Nat) (v : Value) (l : List Tm) : Prop := w.ownsRow base 114 3 v l.length (cellsL tmC l)
theorem OwnM.rows {w : World} {base : Nat} {v : Value} {l : List Tm} (h : OwnM w base v l) : Rows tmC 3 w v l := Rows.of_own tmC_len h
theorem OwnM.sl {w : World} {base : Nat} {v : Value} {l : List Tm} (h : OwnM w base v l) : ∃ p c, v = .slice p l.length c := by
  rcases h.2 with ⟨q, h0⟩ | ⟨g, cap, cur, q, -⟩
  · exact ⟨none, 0, by rw [q, h0]⟩
  · exact ⟨_, cap, q⟩
theorem heM {w5 : World} {base : Nat} (hb5 : base ≤ w5.heap.size) (g : Nat) (V V' : World) (k2 : Kept (fun _ => False) (V.alloc (.cells #[] 114)) V') (k1 : Kept (fun _ => False) w5 V) (hg : V.heap.size = g) :
    (V'.ownsRow base 114 3 (.slice (some ⟨g, 0, none⟩) 0 0) 0 [] ∧ base ≤ V'.heap.size ∧ Kept (fun _ => False) w5 V') ∧ ∀ (v6 : Value) (w6 : World), Kept (fun b => (Value.slice (some ⟨g, 0, none⟩) 0 0).ownBlock = some b) V' w6 → (∀ b, v6.ownBlock = some b → (Value.slice (some ⟨g, 0, none⟩) 0 0).ownBlock = some b ∨ V'.heap.size ≤ b) → Kept (fun _ => False) w5 w6 ∧ ∀ b, v6.ownBlock = some b → w5.heap.size ≤ b := by
  have s1 := k1.size
  have s2 := k2.size
  have s3 : (V.alloc (.cells #[] 114)).heap.size = V.heap.size + 1 := by simp
  have k3 : Kept (fun _ => False) w5 V' := (k1.alloc _).trans k2 (fun _ _ h => h)
  refine ⟨⟨?_, by omega, k3⟩, fun v6 w6 k4 hb => ⟨k3.trans k4 (fun b hb q => by injection q with q; simp only at q; omega), fun b q => ?_⟩⟩
  · subst hg
    exact ownsRow_kept (ownsRow_base (own_empty V 114 3) (by omega)) k2 (fun _ _ _ h => h)
  · rcases hb b q with q | q
    · injection q with q; simp only at q; omega
    · omega
theorem own_vS {w : World} {base e size n : Nat} {v : Value} {xs : List Value} (h : w.ownsRow base e size v n xs) : ∃ p c, v = .slice p n c := by
  rcases h.2 with ⟨q, h0⟩ | ⟨g, cap, cur, q, -⟩
  · exact ⟨none, 0, by rw [q, h0]⟩
  · exact ⟨_, cap, q⟩
/-- What a call of the document's wheel leaves. -/
def DPost (w w' : World) (base db : Nat) (vL : Value) (rb : Nat) (v1 v2 v3 v4 : Value) (W' : Wh) : Prop := ∃ vL' v4', DW w' base db vL' rb v1 v2 v3 v4' W' ∧ Kept (DP db vL rb v1 v2 v3 v4) w w' ∧ ∀ b, DP db vL' rb v1 v2 v3 v4' b → DP db vL rb v1 v2 v3 v4 b ∨ w.heap.size ≤ b
variable {w w1 w7 : World} {base db rb : Nat} {vL v1 v2 v3 v4 v4' v7 : Value} {W W' : Wh} {a' : AA} {L2 : List Tm}
theorem DW.post (h : DW w base db vL rb v1 v2 v3 v4 W) {w' : World} (K : Kept (fun _ => False) w w') : DPost w w' base db vL rb v1 v2 v3 v4 W :=
  ⟨vL, v4, h.same K, K.mono fun _ _ q => q.elim, fun b q => .inl q⟩
theorem fr_new {b n : Nat} (hv4 : ∀ b, v4'.ownBlock = some b → v4.ownBlock = some b ∨ n ≤ b) (q : FR rb v1 v2 v3 v4' b) : DP db vL rb v1 v2 v3 v4 b ∨ n ≤ b := by
  rcases q with q | q | q | q | q
  · exact .inl (.inr (.inr (.inl q)))
  · exact .inl (.inr (.inr (.inr (.inl q))))
  · exact .inl (.inr (.inr (.inr (.inr (.inl q)))))
  · exact .inl (.inr (.inr (.inr (.inr (.inr (.inl q))))))
  · rcases hv4 b q with q | q
    · exact .inl (.inr (.inr (.inr (.inr (.inr (.inr q))))))
    · exact .inr q
/-- The arena has turned. -/
theorem DW.turn (h : DW w base db vL rb v1 v2 v3 v4 W) (hr : IsR w1 base rb v1 v2 v3 v4' a') (K1 : Kept (FR rb v1 v2 v3 v4) w w1) (hv4 : ∀ b, v4'.ownBlock = some b → v4.ownBlock = some b ∨ w.heap.size ≤ b) : DW w1 base db vL rb v1 v2 v3 v4' { W with a := a' } where
  hd := RowAt.kept h.hd K1 h.apart
  rows := h.rows.kept K1 (fun b q _ => (h.own b q).2.2.2)
  ar := hr
  lo := h.lo
  own := fun b q => by
    have h1 := h.own b q
    refine ⟨h1.1, Nat.lt_of_lt_of_le h1.2.1 K1.size, h1.2.2.1, fun f => ?_⟩
    rcases f with f | f | f | f | f
    · exact h1.2.2.2 (.inl f)
    · exact h1.2.2.2 (.inr (.inl f))
    · exact h1.2.2.2 (.inr (.inr (.inl f)))
    · exact h1.2.2.2 (.inr (.inr (.inr (.inl f))))
    · rcases hv4 b f with q2 | q2
      · exact h1.2.2.2 (.inr (.inr (.inr (.inr q2))))
      · omega
  apart := fun f => by
    have hl := h.hd.lt
    rcases f with f | f | f | f | f
    · exact h.apart (.inl f)
    · exact h.apart (.inr (.inl f))
    · exact h.apart (.inr (.inr (.inl f)))
    · exact h.apart (.inr (.inr (.inr (.inl f))))
    · rcases hv4 db f with q2 | q2
      · exact h.apart (.inr (.inr (.inr (.inr q2))))
      · omega
/-- A new list is stored. -/
theorem DW.store (h : DW w base db vL rb v1 v2 v3 v4 W) (K7 : Kept (fun _ => False) w w7) (hrow : Rows tmC 3 w7 v7 L2) (hn : ∀ b, v7.ownBlock = some b → (w.heap.size ≤ b ∧ b < w7.heap.size) ∨ vL.ownBlock = some b) (hW' : W'.now = W.now) (ha : W'.a = W.a) (hl : W'.l = L2) :
    DW (w7.setCell ⟨db, 2, none⟩ v7) base db v7 rb v1 v2 v3 v4 W' := by
  have h7 := h.same K7
  have KS : Kept (fun b => b = db) w7 (w7.setCell ⟨db, 2, none⟩ v7) := (Kept.refl (fun b => b = db) w7).setCell _ _ (fun _ => rfl)
  have hdl := h.hd.lt
  have hnd : ∀ b, v7.ownBlock = some b → b ≠ db := fun b q e => by
    rcases hn b q with ⟨q2, -⟩ | q2
    · omega
    · exact (h.own b q2).2.2.1 e
  exact {
    hd := by
      have := RowAt.set h7.hd (j := 2) (by simp) v7
      rw [hW']
      exact this
    rows := by rw [hl]; exact hrow.kept KS (fun b q _ => hnd b q)
    ar := by rw [ha]; exact h7.ar.kept KS (fun b q e => h.apart (by rw [← e]; exact q))
    lo := h.lo
    own := fun b q => by
      refine ⟨?_, ?_, hnd b q, fun f => ?_⟩
      · rcases hn b q with ⟨q2, -⟩ | q2
        · have := h.lo; omega
        · exact (h.own b q2).1
      · rcases hn b q with ⟨-, q2⟩ | q2
        · simpa using q2
        · have := (h7.own b q2).2.1; simpa using this
      · rcases hn b q with ⟨q2, -⟩ | q2
        · have := (h.ar.ltF f).1; omega
        · exact (h.own b q2).2.2.2 f
    apart := h.apart }
end Go.Proofs.YtjlcchjcppkbjaaDoor
/- List of the document's wheel. -/
namespace Go.Proofs.YtjlcchjcppkbjaaDoor
open Go.RowKit
variable {w w' : World} {base db rb : Nat} {vL v1 v2 v3 v4 : Value} {W : Wh}
theorem Tryd.info115 : (Tryd.prog.info? 115).map (fun i => (i.zero, i.size, i.bytes)) = some (some (.agg #[.int .i64 0, .int .i64 0]), 2, 16) := by kernel_rfl
theorem el68 : ElemOk Tryd.prog 68 115 2 16 := .mk' Tryd.underlying68 Tryd.info115 rfl (by decide)
/-- A list of the document's, of the call's own. -/
def OwnD (w : World) (base : Nat) (v : Value) (l : List Fd) : Prop := w.ownsRow base 115 2 v l.length (cellsL fdC l)
theorem OwnD.kept {S : Nat → Prop} {w w' : World} {base : Nat} {v : Value} {l : List Fd} (h : OwnD w base v l) (K : Kept S w w') (hS : ∀ b, base ≤ b → v.ownBlock = some b → ¬ S b) : OwnD w' base v l := ownsRow_kept h K hS
theorem OwnD.same {w w' : World} {base : Nat} {v : Value} {l : List Fd} (h : OwnD w base v l) (K : Kept (fun _ => False) w w') : OwnD w' base v l := h.kept K (fun _ _ _ h => h)
theorem OwnD.nil (w : World) (base : Nat) : OwnD w base (.slice none 0 0) [] := ⟨rfl, .inl ⟨rfl, rfl⟩⟩
theorem OwnD.sl {w : World} {base : Nat} {v : Value} {l : List Fd} (h : OwnD w base v l) : ∃ p c, v = .slice p l.length c := by
  rcases h.2 with ⟨q, h0⟩ | ⟨g, cap, cur, q, -⟩
  · exact ⟨none, 0, by rw [q, h0]⟩
  · exact ⟨_, cap, q⟩
theorem OwnD.rows {w : World} {base : Nat} {v : Value} {l : List Fd} (h : OwnD w base v l) : Rows fdC 2 w v l := Rows.of_own fdC_len h
set_option maxRecDepth 100000 in
set_option maxHeartbeats 2000000 in
theorem dlist_c (h : DW w base db vL rb v1 v2 v3 v4 W) (hll : W.l.length ≤ 5000) : Calls Tryd.prog 37 #[.pointer (some ⟨db, 0, none⟩)] w fun e w' => ∃ v, e = .returned v ∧ OwnD w' w.heap.size v (W.l.map Tm.fd) ∧ Kept (fun _ => False) w w' := by
  have HD := Lib.hid h
  obtain ⟨pL, cL, rfl⟩ := h.rows.len
  clear h
  go_enter Tryd.func37, Tryd.ntmps37
  go_wp2_with fail
  go_loopw [3, 4] (fun s3 s4 wr => ∃ (k : Nat), k ≤ W.l.length ∧ s4 = .int .i64 k ∧ OwnD wr w.heap.size s3 ((W.l.take k).map Tm.fd) ∧ Kept (fun _ => False) w wr) (fun _ s4 _ => W.l.length - (intOf s4).toNat)
  case atStart => exact ⟨0, Nat.zero_le _, rfl, by rw [List.take_zero]; exact OwnD.nil _ _, Kept.refl _ _⟩
  case round =>
    obtain ⟨k, hk, rfl, ho, K⟩ := hrel
    have HO := Lib.hid ho
    have HK := Lib.hid K
    obtain ⟨p3, c3, rfl⟩ := ho.sl
    have hlk : ((W.l.take k).map Tm.fd).length = k := by rw [List.length_map, List.length_take]; omega
    rw [hlk] at HO ⊢
    have HV := Lib.hid (dvalid_c (HD.out.same K))
    have c2 := (HD.out.same K).hd.get (j := 2) rfl
    have cl := (HD.out.same K).hd.lt
    by_cases hlt : k < W.l.length
    · obtain ⟨t, ht⟩ : ∃ t, W.l[k]? = some t := ⟨_, List.getElem?_eq_getElem hlt⟩
      obtain ⟨b0, off0, c0, hv, ⟨a0, a1, -⟩, bl, -⟩ := tm_at (HD.out.same K).rows ht
      injection hv with hv hvn hc
      clear hvn
      subst hv hc
      have j1 : (0 : Int) ≤ (k : Int) := by omega
      have j2 : (k : Int) < (W.l.length : Int) := by omega
      have HTK : Hid ((W.l.take (k + 1)).map Tm.fd = (W.l.take k).map Tm.fd ++ [t.fd]) := Lib.hid (by rw [List.take_add_one, ht]; simp)
      have HLK := Lib.hid hlk
      have HOD : Hid (OwnD wr w.heap.size (.slice p3 k c3) ((W.l.take k).map Tm.fd)) := Lib.hid HO.out
      unfold OwnD at HOD
      rw [hlk] at HOD
      have HKL : Hid (k ≤ 1000000) := Lib.hid (by omega)
      have HBL : Hid (b0 < w.heap.size ∧ db < w.heap.size) := Lib.hid ⟨(HD.out.own b0 rfl).2.1, HD.out.hd.lt⟩
      have HSZ : Hid (w.heap.size ≤ wr.heap.size) := Lib.hid K.size
      have HS0 : Hid (∀ V, Kept (fun _ => False) wr V → (V.cell? ⟨db, 2, none⟩ = some (.slice (some ⟨b0, off0, none⟩) W.l.length cL) ∧ V.cell? ⟨b0, off0 + k * 3, none⟩ = some (.int .i64 t.at_) ∧ V.cell? ⟨b0, off0 + k * 3 + 1, none⟩ = some (.int .i64 t.id) ∧ b0 < V.heap.size ∧ db < V.heap.size) ∧ V.ownsRow w.heap.size 115 2 (.slice p3 k c3) k (cellsL fdC ((W.l.take k).map Tm.fd)) ∧ w.heap.size ≤ V.heap.size) := Lib.hid fun V K' => ⟨⟨(K'.cell (a := ⟨db, 2, none⟩) cl (fun h => h)).trans c2, (K'.cell (a := ⟨b0, off0 + k * 3, none⟩) bl (fun h => h)).trans a0, (K'.cell (a := ⟨b0, off0 + k * 3 + 1, none⟩) bl (fun h => h)).trans a1, Nat.lt_of_lt_of_le bl K'.size, Nat.lt_of_lt_of_le cl K'.size⟩, ownsRow_kept HOD.out K' (fun _ _ _ h => h), Nat.le_trans HSZ.out K'.size⟩
      have HS1 : Hid (∀ V w5, Kept (fun _ => False) wr V → Kept (fun b => (Value.slice p3 k c3).ownBlock = some b) V w5 → (w5.cell? ⟨db, 2, none⟩ = some (.slice (some ⟨b0, off0, none⟩) W.l.length cL) ∧ w5.cell? ⟨b0, off0 + k * 3, none⟩ = some (.int .i64 t.at_) ∧ w5.cell? ⟨b0, off0 + k * 3 + 1, none⟩ = some (.int .i64 t.id) ∧ b0 < w5.heap.size ∧ db < w5.heap.size) ∧ Kept (fun _ => False) w w5) := Lib.hid fun V w5 k1 k2 => by
        have n1 : (Value.slice p3 k c3).ownBlock ≠ some b0 := fun e => by have := (ownsRow_block HOD.out e).1; have := HBL.out; omega
        have n2 : (Value.slice p3 k c3).ownBlock ≠ some db := fun e => by have := (ownsRow_block HOD.out e).1; have := HBL.out; omega
        have kk : Kept (fun b => (Value.slice p3 k c3).ownBlock = some b) wr w5 := (k1.mono (fun _ _ h => h.elim)).trans k2 (fun _ _ h => h)
        exact ⟨⟨(kk.cell (a := ⟨db, 2, none⟩) cl n2).trans c2, (kk.cell (a := ⟨b0, off0 + k * 3, none⟩) bl n1).trans a0, (kk.cell (a := ⟨b0, off0 + k * 3 + 1, none⟩) bl n1).trans a1, Nat.lt_of_lt_of_le bl kk.size, Nat.lt_of_lt_of_le cl kk.size⟩, HK.out.trans kk (fun b hb q => by have := (ownsRow_block HOD.out q).1; omega)⟩
      clear ho K ht hlk
      go_wp2_with (go_at_call 55; refine HV.out.mono ?_; rintro e w' ⟨rfl, hww⟩; obtain rfl := hww.symm)
      clear a0 a1 c2
      go_region_held3 (fun V => V.cell? ⟨db, 2, none⟩ = some (.slice (some ⟨b0, off0, none⟩) W.l.length cL) ∧ V.cell? ⟨b0, off0 + k * 3, none⟩ = some (.int .i64 t.at_) ∧ V.cell? ⟨b0, off0 + k * 3 + 1, none⟩ = some (.int .i64 t.id) ∧ b0 < V.heap.size ∧ db < V.heap.size) (first | exact HS2.out.1 | exact (HS0.out _ (by repeat (first | exact Kept.refl _ _ | refine Kept.alloc ?_ _ | refine Kept.drew ?_))).1) (first | (refine step_one rfl (.tmp 18) (.tmp 36) rfl el68 w.heap.size _ k _ _ (fdC t.fd) rfl rfl (HS0.out _ (by repeat (first | exact Kept.refl _ _ | refine Kept.alloc ?_ _ | refine Kept.drew ?_))).2.1 rfl (fun j u hj => by (first | rw [World.cell?_alloc_at _ _ _ _ rfl] | rw [drew_cell, World.cell?_alloc_at _ _ _ _ rfl]); have hj2 := hj; simp only [fdC, Tm.fd] at hj2; simpa using hj2) (fdC_one _) HKL.out (by decide) (HS0.out _ (by repeat (first | exact Kept.refl _ _ | refine Kept.alloc ?_ _ | refine Kept.drew ?_))).2.2 ?_; intro g2 cg w5 hown5 K5 hor hg5; have HS2 := Lib.hid (HS1.out _ w5 (by repeat (first | exact Kept.refl _ _ | refine Kept.alloc ?_ _ | refine Kept.drew ?_)) K5); have HW5 := Lib.hid hown5; clear hown5 K5 hor hg5))
      have HK5 : Hid (Kept (fun _ => False) w w5) := Lib.hid HS2.out.2
      have HN : Hid (OwnD w5 w.heap.size (.slice (some ⟨g2, 0, none⟩) (k + 1) cg) ((W.l.take (k + 1)).map Tm.fd)) := Lib.hid (by
        unfold OwnD
        rw [HTK.out, List.length_append, HLK.out, cellsL_append, cellsL_one]
        exact HW5.out)
      go_wp2_with fail
      go_roundw
      case rel => exact ⟨k + 1, by omega, by go_num, HN.out, HK5.out⟩
      case measure => simp [intOf]; omega
    · obtain rfl : k = W.l.length := by omega
      have HX : Hid (OwnD wr w.heap.size (.slice p3 W.l.length c3) (W.l.map Tm.fd)) := Lib.hid (by
        have h1 := HO.out
        rw [List.take_length] at h1
        exact h1)
      clear ho K hlk
      go_wp2_with (go_at_call 55; refine HV.out.mono ?_; rintro e w' ⟨rfl, hww⟩; obtain rfl := hww.symm)
      go_ret
      exact ⟨_, rfl, HX.out, HK.out⟩
end Go.Proofs.YtjlcchjcppkbjaaDoor
/- New of the document's wheel. -/
namespace Go.Proofs.YtjlcchjcppkbjaaDoor
open Go.RowKit
variable {w w' : World}
theorem dnew_c (n : Nat) (now : Int) (w : World) (hn : n ≤ 4096) (h0 : 0 ≤ now) (h1 : now ≤ 4611686018427387904) : Calls Tryd.prog 27 #[.int .i64 n, .int .i64 now] w fun e w' => ∃ db rb v1 v2 v3 v4, e = .returned (.tuple #[.pointer (some ⟨db, 0, none⟩), .int .i64 0]) ∧ DW w' w.heap.size db (.slice none 0 0) rb v1 v2 v3 v4 (Wh.new n now) ∧ Kept (fun _ => False) w w' := by
  have HR := Lib.hid (rnew_r n w hn)
  go_enter Tryd.func27, Tryd.ntmps27
  go_wp2_with (go_at_call 54; refine HR.out.mono ?_; rintro e w1 ⟨rb, v1, v2, v3, v4, rfl, I, K⟩; have HI := Lib.hid I; have HK := Lib.hid K; clear I K)
  go_ret2
  refine ⟨_, rb, v1, v2, v3, v4, rfl, ?_, HK.out.alloc _⟩
  have KA : Kept (fun _ => False) w1 (w1.alloc (.cells #[.bool true, .int .i64 now, .slice none 0 0, .pointer (some ⟨rb, 0, none⟩)] 111)) := (Kept.refl _ _).alloc _
  exact {
    hd := RowAt.new w1 111 #[.bool true, .int .i64 now, .slice none 0 0, .pointer (some ⟨rb, 0, none⟩)]
    rows := Rows.nil _ _ _
    ar := HI.out.same KA
    lo := HK.out.size
    own := fun b q => by simp [Value.ownBlock] at q
    apart := fun q => by have := (HI.out.ltF q).1; omega }
theorem dnew_no (n now : Int) (w : World) (h : (n < 0 ∨ 4096 < n) ∨ now < 0 ∨ 4611686018427387904 < now) (hn : -9223372036854775808 ≤ n ∧ n ≤ 9223372036854775807) : Calls Tryd.prog 27 #[.int .i64 n, .int .i64 now] w fun e w' => e = .returned (.tuple #[.pointer none, .int .i64 2]) ∧ Kept (fun _ => False) w w' := by
  by_cases hb : n < 0 ∨ 4096 < n
  · have HR := Lib.hid (rnew_no n w hb)
    go_enter Tryd.func27, Tryd.ntmps27
    go_wp2_with (go_at_call 54; refine HR.out.mono ?_; rintro e w1 ⟨rfl, hww⟩; obtain rfl := hww)
    go_ret2
    exact ⟨rfl, Kept.refl _ _⟩
  · obtain ⟨m, rfl⟩ : ∃ m : Nat, n = (m : Int) := ⟨n.toNat, by omega⟩
    have HR := Lib.hid (rnew_r m w (by omega))
    have h2 : now < 0 ∨ 4611686018427387904 < now := by rcases h with h | h; exact absurd h hb; exact h
    rcases h2 with h2 | h2
    · have d1 : decide (now < 0) = true := by simpa using h2
      clear h hb h2
      go_enter Tryd.func27, Tryd.ntmps27
      go_wp2_with (go_at_call 54; refine HR.out.mono ?_; rintro e w1 ⟨rb, v1, v2, v3, v4, rfl, I, K⟩; have HK := Lib.hid K; clear I K)
      go_ret2
      exact ⟨rfl, HK.out⟩
    · have d1 : decide (now < 0) = false := by simp only [decide_eq_false_iff_not]; omega
      have d2 : decide (4611686018427387904 < now) = true := by simpa using h2
      clear h hb h2
      go_enter Tryd.func27, Tryd.ntmps27
      go_wp2_with (go_at_call 54; refine HR.out.mono ?_; rintro e w1 ⟨rb, v1, v2, v3, v4, rfl, I, K⟩; have HK := Lib.hid K; clear I K)
      go_ret2
      exact ⟨rfl, HK.out⟩
end Go.Proofs.YtjlcchjcppkbjaaDoor
/- alike: a list of the program's and one of the document's. -/
namespace Go.Proofs.YtjlcchjcppkbjaaDoor
open Go.RowKit
variable {w w' : World}
set_option maxRecDepth 100000 in
set_option maxHeartbeats 1000000 in
theorem alike_t {v u : Value} {l : List Fd} (hl : Rows fdC 2 w v l) (hm : Rows fdC 2 w u l) (hll : l.length ≤ 1000000) : Calls Tryd.prog 31 #[v, u] w fun e w' => e = .returned (.bool true) ∧ Kept (fun _ => False) w w' := by
  obtain ⟨p, c, rfl⟩ := hl.len
  obtain ⟨q, d, rfl⟩ := hm.len
  have hL := Lib.hid hl
  have HM := Lib.hid hm
  clear hl hm
  go_enter Tryd.func31, Tryd.ntmps31
  go_wp2_with fail
  go_loopw [5] (fun s5 wr => ∃ (k : Nat), k ≤ l.length ∧ s5 = .int .i64 k ∧ Kept (fun _ => False) w wr) (fun s5 _ => l.length - (intOf s5).toNat)
  case atStart => exact ⟨0, Nat.zero_le _, rfl, Kept.refl _ _⟩
  case round =>
    obtain ⟨k, hk, rfl, K⟩ := hrel
    have HK := Lib.hid K
    clear K
    by_cases hlt : k < l.length
    · obtain ⟨x, hx⟩ : ∃ x, l[k]? = some x := ⟨_, List.getElem?_eq_getElem hlt⟩
      obtain ⟨b, off, c', hv, a0, a1, bl⟩ := fd_at hL.out hx
      obtain ⟨b2, off2, c2', hv2, e0, e9, bl2⟩ := fd_at HM.out hx
      injection hv with hv hvn hc
      injection hv2 with hv2 hvn2 hc2
      clear hvn hvn2
      subst hv hv2 hc hc2
      have f0 := (HK.out.cell (a := ⟨b, off + k * 2, none⟩) bl (fun h => h)).trans a0
      have f1 := (HK.out.cell (a := ⟨b, off + k * 2 + 1, none⟩) bl (fun h => h)).trans a1
      have g0 := (HK.out.cell (a := ⟨b2, off2 + k * 2, none⟩) bl2 (fun h => h)).trans e0
      have g1 := (HK.out.cell (a := ⟨b2, off2 + k * 2 + 1, none⟩) bl2 (fun h => h)).trans e9
      have blr := Nat.lt_of_lt_of_le bl HK.out.size
      have blr2 := Nat.lt_of_lt_of_le bl2 HK.out.size
      have j1 : (0 : Int) ≤ (k : Int) := by omega
      have j2 : (k : Int) < (l.length : Int) := by omega
      obtain ⟨x1, x2⟩ := x
      dsimp only at f0 f1 g0 g1
      have e1 : (x1 != x1) = false := by simp
      have e2 : (x2 != x2) = false := by simp
      clear a0 a1 e0 e9 hx
      go_wp2_with fail
      go_quiet (fail)

      go_wp2_with fail
      go_roundw
      case rel => exact ⟨k + 1, by omega, by go_num, HK.out.drewN nq⟩
      case measure => simp [intOf]; omega
    · obtain rfl : k = l.length := by omega
      go_wp2_with fail
      go_ret
      exact ⟨rfl, HK.out⟩
end Go.Proofs.YtjlcchjcppkbjaaDoor
/- The document's wheel at a nil pointer. -/
namespace Go.Proofs.YtjlcchjcppkbjaaDoor
open Go.RowKit
variable {w : World}
theorem dvalid_n (w : World) : Calls Tryd.prog 55 #[.pointer none] w fun e w' => e = .returned (.bool false) ∧ w' = w := by
  go_enter Tryd.func55, Tryd.ntmps55
  go_wp2
  go_ret
  exact ⟨rfl, rfl⟩
set_option maxRecDepth 100000 in
theorem dadd_n (w : World) (a b : Int) : Calls Tryd.prog 28 #[.pointer none, .int .i64 a, .int .i64 b] w fun e w' => e = .returned (.tuple #[.int .i64 0, .int .i64 1]) ∧ w' = w := by
  have HV := Lib.hid (dvalid_n w)
  go_enter Tryd.func28, Tryd.ntmps28
  go_wp2_with (go_at_call 55; refine HV.out.mono ?_; rintro e w' ⟨rfl, hww⟩; obtain rfl := hww.symm)
  go_ret2
  exact ⟨rfl, rfl⟩
set_option maxRecDepth 100000 in
theorem dcancel_n (w : World) (a : Int) : Calls Tryd.prog 29 #[.pointer none, .int .i64 a] w fun e w' => e = .returned (.int .i64 1) ∧ w' = w := by
  have HV := Lib.hid (dvalid_n w)
  go_enter Tryd.func29, Tryd.ntmps29
  go_wp2_with (go_at_call 55; refine HV.out.mono ?_; rintro e w' ⟨rfl, hww⟩; obtain rfl := hww.symm)
  go_ret
  exact ⟨rfl, rfl⟩
set_option maxRecDepth 100000 in
theorem dadvance_n (w : World) (a : Int) : Calls Tryd.prog 30 #[.pointer none, .int .i64 a] w fun e w' => e = .returned (.tuple #[.slice none 0 0, .int .i64 1]) ∧ w' = w := by
  have HV := Lib.hid (dvalid_n w)
  go_enter Tryd.func30, Tryd.ntmps30
  go_wp2_with (go_at_call 55; refine HV.out.mono ?_; rintro e w' ⟨rfl, hww⟩; obtain rfl := hww.symm)
  go_ret2
  exact ⟨rfl, rfl⟩
set_option maxRecDepth 100000 in
theorem dnext_n (w : World)  : Calls Tryd.prog 33 #[.pointer none] w fun e w' => e = .returned (.tuple #[.int .i64 0, .bool false]) ∧ w' = w := by
  have HV := Lib.hid (dvalid_n w)
  go_enter Tryd.func33, Tryd.ntmps33
  go_wp2_with (go_at_call 55; refine HV.out.mono ?_; rintro e w' ⟨rfl, hww⟩; obtain rfl := hww.symm)
  go_ret2
  exact ⟨rfl, rfl⟩
set_option maxRecDepth 100000 in
theorem dnow_n (w : World)  : Calls Tryd.prog 34 #[.pointer none] w fun e w' => e = .returned (.int .i64 0) ∧ w' = w := by
  have HV := Lib.hid (dvalid_n w)
  go_enter Tryd.func34, Tryd.ntmps34
  go_wp2_with (go_at_call 55; refine HV.out.mono ?_; rintro e w' ⟨rfl, hww⟩; obtain rfl := hww.symm)
  go_ret
  exact ⟨rfl, rfl⟩
set_option maxRecDepth 100000 in
theorem dlen_n (w : World)  : Calls Tryd.prog 35 #[.pointer none] w fun e w' => e = .returned (.int .i64 0) ∧ w' = w := by
  have HV := Lib.hid (dvalid_n w)
  go_enter Tryd.func35, Tryd.ntmps35
  go_wp2_with (go_at_call 55; refine HV.out.mono ?_; rintro e w' ⟨rfl, hww⟩; obtain rfl := hww.symm)
  go_ret
  exact ⟨rfl, rfl⟩
set_option maxRecDepth 100000 in
theorem droom_n (w : World)  : Calls Tryd.prog 36 #[.pointer none] w fun e w' => e = .returned (.int .i64 0) ∧ w' = w := by
  have HV := Lib.hid (dvalid_n w)
  go_enter Tryd.func36, Tryd.ntmps36
  go_wp2_with (go_at_call 55; refine HV.out.mono ?_; rintro e w' ⟨rfl, hww⟩; obtain rfl := hww.symm)
  go_ret
  exact ⟨rfl, rfl⟩
set_option maxRecDepth 100000 in
theorem dcopy_n (w : World)  : Calls Tryd.prog 32 #[.pointer none] w fun e w' => e = .returned (.pointer none) ∧ w' = w := by
  have HV := Lib.hid (dvalid_n w)
  go_enter Tryd.func32, Tryd.ntmps32
  go_wp2_with (go_at_call 55; refine HV.out.mono ?_; rintro e w' ⟨rfl, hww⟩; obtain rfl := hww.symm)
  go_ret
  exact ⟨rfl, rfl⟩
set_option maxRecDepth 100000 in
theorem dlist_n (w : World) : Calls Tryd.prog 37 #[.pointer none] w fun e w' => e = .returned (.slice none 0 0) ∧ w' = w := by
  have HV := Lib.hid (dvalid_n w)
  go_enter Tryd.func37, Tryd.ntmps37
  go_wp2_with fail
  go_loopw [3, 4] (fun s3 s4 wr => wr = w ∧ s3 = .slice none 0 0 ∧ s4 = .int .i64 0) (fun _ _ _ => 0)
  case atStart => exact ⟨rfl, rfl, rfl⟩
  case round =>
    obtain ⟨rfl, rfl, rfl⟩ := hrel
    go_wp2_with (go_at_call 55; refine HV.out.mono ?_; rintro e w' ⟨rfl, hww⟩; obtain rfl := hww.symm)
    go_ret
    exact ⟨rfl, rfl⟩
set_option maxRecDepth 100000 in
theorem wnew_no (n now : Int) (w : World) (h : (n < 0 ∨ 4096 < n) ∨ now < 0 ∨ 4611686018427387904 < now) : Calls Tryd.prog 14 #[.int .i64 n, .int .i64 now] w fun e w' => e = .returned (.tuple #[.pointer none, .int .i64 2]) ∧ Kept (fun _ => False) w w' := by
  by_cases hb : n < 0 ∨ 4096 < n
  · have HR := Lib.hid (new_no n w hb)
    go_enter Tryd.func14, Tryd.ntmps14
    go_wp2_with (go_at_call 38; refine HR.out.mono ?_; rintro e w1 ⟨rfl, hww⟩; obtain rfl := hww)
    go_ret2
    exact ⟨rfl, Kept.refl _ _⟩
  · have HR := Lib.hid (new_a n w (by omega) (by omega))
    have h2 : now < 0 ∨ 4611686018427387904 < now := by rcases h with h | h; exact absurd h hb; exact h
    rcases h2 with h2 | h2
    · have d1 : decide (now < 0) = true := by simpa using h2
      clear h hb h2
      go_enter Tryd.func14, Tryd.ntmps14
      go_wp2_with (go_at_call 38; refine HR.out.mono ?_; rintro e w1 ⟨rfl, -, K⟩; have HK := Lib.hid K; clear K)
      go_ret2
      exact ⟨rfl, HK.out⟩
    · have d1 : decide (now < 0) = false := by simp only [decide_eq_false_iff_not]; omega
      have d2 : decide (4611686018427387904 < now) = true := by simpa using h2
      clear h hb h2
      go_enter Tryd.func14, Tryd.ntmps14
      go_wp2_with (go_at_call 38; refine HR.out.mono ?_; rintro e w1 ⟨rfl, -, K⟩; have HK := Lib.hid K; clear K)
      go_ret2
      exact ⟨rfl, HK.out⟩
end Go.Proofs.YtjlcchjcppkbjaaDoor
