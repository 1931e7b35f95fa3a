/- ArCopiesW: texts for the statements of this seat: contracts of functions, walks, plain laws. Conditions: none. -/
import Derived.Test.YtokmjjjedljcpaaArCopies
import Derived.Test.YtokmjjjedljcpaaArClear
import Derived.Test.YtokmjjjedljcpaaArQuiet
namespace Go.Proofs.Ytokmjjjedljcpaa
open Go.RowKit

/-- The two arenas and the handles. -/
structure St (w : World) (ab sb n cb csb cap g m gc : Nat) (W : World) (a c : AA) : Prop where
  a : IsA W ab sb n a
  c : IsA W cb csb cap c
  row : W.ownsRow (w.heap.size + 2) 27 1 (.slice (some ⟨g, 0, none⟩) m gc) m ((hn m).map (Value.int .i64))
  k : Kept (fun _ => False) w W
  ne1 : ab < w.heap.size + 2
  ne2 : sb < w.heap.size + 2
  ne3 : w.heap.size + 2 ≤ g
  ne4 : g < cb
  ne5 : g < csb
  ne6 : w.heap.size ≤ ab
  ne7 : w.heap.size ≤ sb

theorem St.same {w : World} {ab sb n cb csb cap g m gc : Nat} {W W' : World} {a c : AA} (h : St w ab sb n cb csb cap g m gc W a c) (K : Kept (fun _ => False) W W') : St w ab sb n cb csb cap g m gc W' a c :=
  ⟨h.a.kept K (fun h => h) (fun h => h), h.c.kept K (fun h => h) (fun h => h), ownsRow_kept h.row K (fun _ _ _ h => h), h.k.trans K (fun _ _ h => h), h.ne1, h.ne2, h.ne3, h.ne4, h.ne5, h.ne6, h.ne7⟩
theorem St.other {w : World} {ab sb n cb csb cap g m gc : Nat} {W W' : World} {a c : AA} {S : Nat → Prop} (h : St w ab sb n cb csb cap g m gc W a c) (K : Kept S W W') (hS : ∀ b, S b → b ≠ ab ∧ b ≠ sb ∧ b ≠ cb ∧ b ≠ csb ∧ b ≠ g ∧ w.heap.size ≤ b) : St w ab sb n cb csb cap g m gc W' a c :=
  ⟨h.a.kept K (fun h => (hS _ h).1 rfl) (fun h => (hS _ h).2.1 rfl), h.c.kept K (fun h => (hS _ h).2.2.1 rfl) (fun h => (hS _ h).2.2.2.1 rfl), ownsRow_kept h.row K (fun b _ hq q => by simp [Value.ownBlock] at hq; exact (hS _ q).2.2.2.2.1 hq.symm),
   h.k.trans K (fun i hi q => by have := (hS _ q).2.2.2.2.2; omega), h.ne1, h.ne2, h.ne3, h.ne4, h.ne5, h.ne6, h.ne7⟩
theorem St.lt {w : World} {ab sb n cb csb cap g m gc : Nat} {W : World} {a c : AA} (h : St w ab sb n cb csb cap g m gc W a c) : ab < W.heap.size ∧ sb < W.heap.size ∧ cb < W.heap.size ∧ csb < W.heap.size ∧ g < W.heap.size ∧ w.heap.size ≤ W.heap.size :=
  ⟨h.a.lta, h.a.lts, h.c.lta, h.c.lts, (ownsRow_block h.row (b := g) rfl).2, h.k.size⟩
theorem St.seta {w : World} {ab sb n cb csb cap g m gc : Nat} {W W' : World} {a a' c : AA} (h : St w ab sb n cb csb cap g m gc W a c) (I : IsA W' ab sb n a') (K : Kept (fun b => b = ab ∨ b = sb) W W') : St w ab sb n cb csb cap g m gc W' a' c :=
  ⟨I, h.c.kept K (fun q => by have := h.ne1; have := h.ne2; have := h.ne3; have := h.ne4; rcases q with q | q <;> omega) (fun q => by have := h.ne1; have := h.ne2; have := h.ne3; have := h.ne5; rcases q with q | q <;> omega),
   ownsRow_kept h.row K (fun b hb _ q => by have := h.ne1; have := h.ne2; rcases q with q | q <;> omega), h.k.trans K (fun i hi q => by have := h.ne6; have := h.ne7; rcases q with q | q <;> omega), h.ne1, h.ne2, h.ne3, h.ne4, h.ne5, h.ne6, h.ne7⟩
theorem St.setc {w : World} {ab sb n cb csb cap g m gc : Nat} {W W' : World} {a c c' : AA} (h : St w ab sb n cb csb cap g m gc W a c) (I : IsA W' cb csb cap c') (K : Kept (fun b => b = cb ∨ b = csb) W W') : St w ab sb n cb csb cap g m gc W' a c' :=
  ⟨h.a.kept K (fun q => by have := h.ne1; have := h.ne3; have := h.ne4; have := h.ne5; rcases q with q | q <;> omega) (fun q => by have := h.ne2; have := h.ne3; have := h.ne4; have := h.ne5; rcases q with q | q <;> omega), I,
   ownsRow_kept h.row K (fun b hb hq q => by have := h.ne4; have := h.ne5; simp [Value.ownBlock] at hq; rcases q with q | q <;> omega), h.k.trans K (fun i hi q => by have := h.ne3; have := h.ne4; have := h.ne5; rcases q with q | q <;> omega), h.ne1, h.ne2, h.ne3, h.ne4, h.ne5, h.ne6, h.ne7⟩

set_option maxHeartbeats 4000000 in
set_option maxRecDepth 100000 in
theorem copies_c (size count which : Int) (w : World) (s0 : 0 ≤ size) (s1 : size ≤ 255) (t0 : 0 ≤ count) (t1 : count ≤ 255) (f0 : 0 ≤ which) (f1 : which ≤ 255) :
    Calls Try.prog 8 #[.int .u8 size, .int .u8 count, .int .u8 which] w fun e w' => e = .returned (.bool true) ∧ Kept (fun _ => False) w w' := by
  go_enter Try.func8, Try.ntmps8
  go_wp2_with fail
  generalize hN : 2 + size % 40 = N
  have n1 : 2 ≤ N := by omega
  have n2 : N ≤ 41 := by omega
  clear hN
  obtain ⟨n, rfl⟩ := Int.eq_ofNat_of_zero_le (show 0 ≤ N by omega)
  refine (new_a n _ (by omega) (by omega)).mono ?_
  rintro e w1 ⟨rfl, I0, K0⟩
  have hla := I0.lta
  rw [Int.toNat_natCast] at I0
  have hm0 : 0 ≤ count % ((n : Int) - 1) := Int.emod_nonneg _ (by omega)
  have hm1 : count % ((n : Int) - 1) < (n : Int) - 1 := Int.emod_lt_of_pos _ (by omega)
  go_wp2_with fail
  generalize hM : (1 + count % ((n : Int) - 1)) = M
  have m1 : 1 ≤ M := by omega
  have m2 : M < n := by omega
  clear hM hm0 hm1
  obtain ⟨m, rfl⟩ := Int.eq_ofNat_of_zero_le (show 0 ≤ M by omega)
  go_loopw [11, 49] (fun v i wr => ∃ k : Nat, k ≤ m ∧ i = .int .i64 k ∧ (∃ a, IsA wr (w.heap.size + 1) w.heap.size n a ∧ C1 n k a) ∧ wr.ownsRow (w.heap.size + 2) 27 1 v k ((hn k).map (Value.int .i64)) ∧ Kept (fun _ => False) w wr)
    (fun _ i _ => m - (intOf i).toNat)
  case atStart => exact ⟨0, by omega, rfl, ⟨_, I0, C1_start _⟩, World.ownsRow_nil _ _ _ _, K0⟩
  case round =>
    clear I0 K0
    obtain ⟨k, hk, rfl, ⟨a, I, hS⟩, hown, K⟩ := hrel
    by_cases hlt : k < m
    · obtain ⟨a', hp, hS'⟩ := C1_put hS (by omega)
      have HC := Lib.hid (put_a I hp)
      have la := I.lta
      go_wp2_with fail
      refine HC.out.mono ?_
      rintro e w2 ⟨rfl, I2, K2⟩
      have hown2 := ownsRow_kept hown K2 (fun b hb _ h => by rcases h with h | h <;> omega)
      have la2 := K2.size
      clear HC
      go_wp2_with (at_builtin; refine wpList_app1 el26 rfl _ _ rfl (w.heap.size + 2) _ k ((hn k).map (Value.int .i64)) rfl hown2 rfl rfl ?c1 ?c2 ?c3 ?c4 ?_)
      case c1 => intro u hu; simp at hu; subst hu; rfl
      case c2 => unfold maxLen; omega
      case c3 => omega
      case c4 => omega
      intro g cap w3 hown3 K3
      have I3 : IsA w3 (w.heap.size + 1) w.heap.size n a' := I2.kept K3 (fun h => by have := (ownsRow_block hown h).1; omega) (fun h => by have := (ownsRow_block hown h).1; omega)
      have KK : Kept (fun _ => False) w w3 := (K.trans K2 (fun i hi h => by rcases h with h | h <;> omega)).trans K3 (fun i hi h => by have := (ownsRow_block hown h).1; omega)
      have hown4 : w3.ownsRow (w.heap.size + 2) 27 1 (.slice (some ⟨g, 0, none⟩) (k + 1) cap) (k + 1) ((hn (k + 1)).map (Value.int .i64)) := by rw [hn_snoc, List.map_append]; exact hown3
      clear hown hown2 hown3 K K2 K3 hp
      go_wp2
      go_roundw
      case rel => exact ⟨k + 1, by omega, by go_num, ⟨a', I3, hS'⟩, hown4, KK⟩
      case measure => simp [intOf]; omega
    · obtain rfl : m = k := by omega
      obtain ⟨g, gc, rfl, hg⟩ := ownsRow_pos hown (by omega)
      have hgl := (ownsRow_block hown (b := g) rfl).2
      obtain ⟨fl, fn, fr⟩ := C1_facts hS (by omega)
      obtain ⟨wh, rfl⟩ := Int.eq_ofNat_of_zero_le f0
      have hj : wh % m < m := Nat.mod_lt _ (by omega)
      obtain ⟨j, hje⟩ : ∃ j, wh % m = j := ⟨_, rfl⟩
      rw [hje] at hj
      obtain ⟨c1, c2, c3, q1, q2, q3, q4, q5, q6⟩ := C1_copy hS (by omega) (by omega) hj
      obtain ⟨a2, p1, p2⟩ := C1_two hS (by omega)
      have gj := C1_get hS (by omega) (by omega) hj
      have HJ := Lib.hid hje
      have HC := Lib.hid (copy_a I)
      have HQ := Lib.hid (And.intro fl (And.intro fn (And.intro fr (And.intro q1 (And.intro q2 (And.intro q3 (And.intro q4 (And.intro q5 (And.intro q6 (And.intro p1 (And.intro p2 gj)))))))))))
      have la := I.lta
      clear fl fn fr q1 q2 q3 q4 q5 q6 p1 p2 gj hje
      go_wp2_with fail
      refine HC.out.mono ?_
      rintro e w2 ⟨cb, csb, cap, rfl, IC, KC, hcb, hcsb⟩
      have ST : St w (w.heap.size + 1) w.heap.size n cb csb cap g m gc w2 a a :=
        ⟨I.kept KC (fun h => h) (fun h => h), IC, ownsRow_kept hown KC (fun _ _ _ h => h), K.trans KC (fun _ _ h => h), by omega, by omega, hg, by omega, by omega, by omega, by omega⟩
      clear I IC hown K KC HC
      have HL := Lib.hid (live_a ST.c)
      go_wp2_with fail
      refine HL.out.mono ?_
      rintro e w3 ⟨v3, rfl, hown3, K3⟩
      have ST := ST.same K3
      have HE := Lib.hid (equal_c v3 (.slice (some ⟨g, 0, none⟩) m gc) a.live (hn m) w3 (Ints.of_own hown3) (Ints.of_own (by rw [hn_length]; exact ST.row)) (by rw [HQ.out.1, hn_length]; omega) (by rw [hn_length]; omega))
      rw [HQ.out.1] at HE
      simp only [decide_true] at HE
      clear hown3 K3 HL
      go_wp2_with fail
      refine HE.out.mono ?_
      rintro e w4 ⟨rfl, nq, rfl⟩
      have ST := ST.same ((Kept.refl _ w3).drewN nq)
      have HR := Lib.hid (room_a ST.c (n := (n : Int) - m) (by rw [HQ.out.2.2.1]; omega))
      clear HE
      go_wp2_with fail
      refine HR.out.mono ?_
      rintro e w5 ⟨rfl, -, K5⟩
      have ST := ST.same K5
      have hcell : w5.cell? ⟨g, wh % m, none⟩ = some (.int .i64 (4096 + (j : Int))) := by
        rw [HJ.out, ST.row.cellAt j (by omega), List.getElem?_map, hn_get hj]; rfl
      have hj2 : (wh : Int) % m < m := Int.emod_lt_of_pos _ (by omega)
      have hj3 : 0 ≤ (wh : Int) % m := Int.emod_nonneg _ (by omega)
      have HF := Lib.hid (free_a ST.c (by omega) HQ.out.2.2.2.1)
      clear HR K5
      go_wp2_with fail
      refine HF.out.mono ?_
      rintro e w6 ⟨rfl, I6, K6⟩
      have ST := ST.setc I6 K6
      have HL1 := Lib.hid (len_a ST.c (n := (m : Int) - 1) (by rw [HQ.out.2.2.2.2.1]; omega))
      have HL2 := Lib.hid (len_a ST.a (n := (m : Int)) (by rw [HQ.out.2.1]))
      have HLV := Lib.hid (live_a ST.a)
      clear HF I6 K6 hcell
      go_wp2_with fail
      refine HL1.out.mono ?_
      rintro e w7 ⟨rfl, rfl⟩
      go_wp2_with fail
      refine HL2.out.mono ?_
      rintro e w7 ⟨rfl, rfl⟩
      go_wp2_with fail
      refine HLV.out.mono ?_
      rintro e w7 ⟨v7, rfl, hown7, K7⟩
      have ST := ST.same K7
      have HE := Lib.hid (equal_c v7 (.slice (some ⟨g, 0, none⟩) m gc) a.live (hn m) w7 (Ints.of_own hown7) (Ints.of_own (by rw [hn_length]; exact ST.row)) (by rw [HQ.out.1, hn_length]; omega) (by rw [hn_length]; omega))
      rw [HQ.out.1] at HE
      simp only [decide_true] at HE
      clear hown7 K7 HL1 HL2 HLV
      go_wp2_with fail
      refine HE.out.mono ?_
      rintro e w8 ⟨rfl, nq, rfl⟩
      have ST := ST.same ((Kept.refl _ w7).drewN nq)
      have HP := Lib.hid (put_a ST.c HQ.out.2.2.2.2.2.1)
      clear HE
      go_wp2_with fail
      refine HP.out.mono ?_
      rintro e w9 ⟨rfl, I9, K9⟩
      have ST := ST.setc I9 K9
      have HG1 := Lib.hid (get_a ST.a (by omega) HQ.out.2.2.2.2.2.2.2.2.2.2.2)
      have HG2 := Lib.hid (get_a ST.c (by omega) HQ.out.2.2.2.2.2.2.1)
      have HP1 := Lib.hid (put_a ST.a HQ.out.2.2.2.2.2.2.2.2.2.1)
      have hjb : ((j : Int) != (wh : Int) % (m : Int)) = false := by rw [← HJ.out]; simp
      clear HP I9 K9
      go_wp2_with fail
      refine HG1.out.mono ?_
      rintro e w10 ⟨rfl, rfl⟩
      go_wp2_with fail
      refine HG2.out.mono ?_
      rintro e w10 ⟨rfl, rfl⟩
      go_wp2_with fail
      refine HP1.out.mono ?_
      rintro e w10 ⟨rfl, I10, K10⟩
      have ST := ST.seta I10 K10
      have HP2 := Lib.hid (put_a ST.c HQ.out.2.2.2.2.2.2.2.1)
      clear HP1 HG1 HG2 I10 K10 hjb
      go_wp2_with fail
      refine HP2.out.mono ?_
      rintro e w11 ⟨rfl, I11, K11⟩
      have ST := ST.setc I11 K11
      have HG3 := Lib.hid (get_a ST.c (by omega) HQ.out.2.2.2.2.2.2.2.2.1)
      have HLV := Lib.hid (live_a ST.a)
      have hlt11 := ST.lt
      clear HP2 I11 K11
      go_wp2_with fail
      refine HG3.out.mono ?_
      rintro e w12 ⟨rfl, rfl⟩
      go_wp2_with fail
      refine HLV.out.mono ?_
      rintro e w12 ⟨v12, rfl, hown12, K12⟩
      have ST := ST.same K12
      rw [HQ.out.2.2.2.2.2.2.2.2.2.2.1, hn_length] at hown12
      obtain ⟨gl, gcl, rfl, hgl2⟩ := ownsRow_pos hown12 (by omega)
      obtain ⟨w13, hrun, K13⟩ := run_clear 0 hown12 (by omega)
      have hgl12 := (ownsRow_block hown12 (b := gl) rfl).1
      have ST := ST.other K13 (fun b hb => by omega)
      have HLV2 := Lib.hid (live_a ST.a)
      clear HG3 HLV K12 K13 hown12
      go_wp2_with fail
      refine HLV2.out.mono ?_
      rintro e w14 ⟨v14, rfl, hown14, K14⟩
      have ST := ST.same K14
      rw [HQ.out.2.2.2.2.2.2.2.2.2.2.1, hn_length] at hown14
      obtain ⟨gm, gcm, rfl, -⟩ := ownsRow_pos hown14 (by omega)
      have d1 : w14.cell? ⟨gm, 0, none⟩ = some (.int .i64 4096) := by rw [hown14.cellAt 0 (by omega), List.getElem?_map, hn_get (by omega)]; rfl
      have d2 : w14.cell? ⟨g, 0, none⟩ = some (.int .i64 4096) := by rw [ST.row.cellAt 0 (by omega), List.getElem?_map, hn_get (by omega)]; rfl
      have hmz : (0 : Int) < (m : Int) := by omega
      have hmz2 : 0 < m := by omega
      have hwr : IntKind.i64.wrap ((m : Int) + 1) = (m : Int) + 1 := IntWalk.i64_in _ (by omega)
      clear HLV2 K14 hown14 hrun
      go_wp2_with fail
      have KF := Lib.hid ST.k
      clear ST
      refine wp_region_class (fun W => W.cell? ⟨gm, 0, none⟩ = some (.int .i64 4096) ∧ W.cell? ⟨g, 0, none⟩ = some (.int .i64 4096) ∧ gm < W.heap.size ∧ g < W.heap.size ∧ Kept (fun _ => False) w W) (by kernel_rfl) (by kernel_rfl) ⟨d1, d2, World.block_lt_of_cell? _ _ d1, World.block_lt_of_cell? _ _ d2, KF.out.drew⟩ ?_
      clear d1 d2
      iterate 15 (refine wpQuiet_yes rfl ?_ (fun W hC => ?_) ?_; rotate_left; (obtain ⟨d1, d2, -⟩ := hC; go_simp; rfl); go_simp)
      refine wpQuiet_yes rfl (.bool true) (fun W hC => ?_) ?_
      · go_simp
        refine (works_c W).mono ?_
        rintro e W' ⟨rfl, K⟩
        obtain ⟨d1, d2, l1, l2, K0⟩ := hC
        exact ⟨rfl, (K.cell (a := ⟨gm, 0, none⟩) l1 (fun h => h)).trans d1, (K.cell (a := ⟨g, 0, none⟩) l2 (fun h => h)).trans d2, Nat.lt_of_lt_of_le l1 K.size, Nat.lt_of_lt_of_le l2 K.size, K0.trans K (fun _ _ h => h)⟩
      go_simp
      iterate 2 (refine wpQuiet_yes rfl ?_ (fun W hC => ?_) ?_; rotate_left; (obtain ⟨d1, d2, -⟩ := hC; go_simp; rfl); go_simp)
      refine wpQuiet_nil ?_
      intro w15 _ _ _ _ K15
      go_wp2
      go_ret
      exact ⟨rfl, K15⟩
end Go.Proofs.Ytokmjjjedljcpaa
