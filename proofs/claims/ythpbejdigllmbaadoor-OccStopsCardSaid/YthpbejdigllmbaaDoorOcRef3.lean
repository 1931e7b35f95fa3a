/- OcRef3: texts for the statements of this seat: contracts of functions, walks, plain laws. Conditions: none. -/
import Derived.Test.YthpbejdigllmbaaDoorOcRef2
import Derived.Test.YthpbejdigllmbaaDoorOcRPlain2
namespace Go.Proofs.YthpbejdigllmbaaDoor
open Go.RowKit

abbrev BoolsAt (w : World) (b : Nat) (l : List Bool) : Prop := RowAt w b (l.map Value.bool)
theorem BoolsAt.get {w : World} {b : Nat} {l : List Bool} (h : BoolsAt w b l) {j : Nat} (hj : j < l.length) : w.cell? ⟨b, j, none⟩ = some (.bool (l.getD j false)) :=
  RowAt.get h (by rw [List.getElem?_map, List.getElem?_eq_getElem hj, List.getD_eq_getElem?_getD, List.getElem?_eq_getElem hj]; rfl)
theorem BoolsAt.set {w : World} {b : Nat} {l : List Bool} (h : BoolsAt w b l) {j : Nat} (hj : j < l.length) (x : Bool) : BoolsAt (w.setCell ⟨b, j, none⟩ (.bool x)) b (l.set j x) := by
  have := RowAt.set h (j := j) (by simpa using hj) (.bool x)
  unfold BoolsAt
  rw [List.map_set]
  exact this
theorem Tryd.info4 : (Tryd.prog.info? 4).map (fun i => (i.zero, i.size, i.bytes)) = some (some (.bool false), 1, 1) := by kernel_rfl
theorem mkb7 (w : World) : (Instr.makeSlice 64 (.int .i64 7) (.int .i64 7)).run Tryd.prog w = .ok (.slice (some ⟨w.heap.size, 0, none⟩) 7 7) (w.alloc (.cells #[.bool false, .bool false, .bool false, .bool false, .bool false, .bool false, .bool false] 4)) :=
  make_p (P := Tryd.prog) Tryd.underlying64 Tryd.info4 rfl (by omega) 7 (by omega) w

theorem rlead_t (s t : Nat) (w : World) (hs : s < 7) (ht1 : 1 ≤ t) (ht : t < 7) : Calls Tryd.prog 38 #[.int .i64 s, .int .i64 t] w fun e w' => e = .returned (.int .i64 (leadN s (t - 1))) ∧ w = w' :=
  rlead_b _ _ _ w (by simp [isSt]; omega) (by simp [isSp]; omega) (by unfold lead; simp)

set_option maxHeartbeats 2000000 in
set_option maxRecDepth 100000 in
theorem rreach_yes (s : Nat) (w : World) (hs : s < 7) : Calls Tryd.prog 26 #[.int .i64 s] w (ReachPost (reachT s) 0 w) := by
  have HS := Lib.hid (known_b true (s : Int) · (by simp [isSt]; omega))
  have hmk := mkb7 w
  have N0 : BoolsAt (w.alloc (.cells #[.bool false, .bool false, .bool false, .bool false, .bool false, .bool false, .bool false] 4)) w.heap.size (List.replicate 7 false) := RowAt.new w 4 _
  have hc := N0.get (j := s) (by simpa using hs)
  have hf := N0.fz s
  have N1 : BoolsAt _ w.heap.size (b0 s) := N0.set (j := s) (by simpa using hs) true
  have K1 : Kept (fun _ => False) w ((w.alloc (.cells #[.bool false, .bool false, .bool false, .bool false, .bool false, .bool false, .bool false] 4)).setCell ⟨w.heap.size, s, none⟩ (.bool true)) := ((Kept.refl _ w).alloc _).setCell _ _ (by simp)
  have HN := Lib.hid (And.intro N1 K1)
  have hbl : (b0 s).length = 7 := by simp [b0]
  have HBL := Lib.hid hbl
  have HSR := Lib.hid (sel_reach ⟨s, hs⟩)
  clear N0 N1 K1 hbl
  generalize b0 s = B at HN HBL HSR
  go_enter Tryd.func26, Tryd.ntmps26
  go_wp2_with (go_at_call 44; refine (HS.out _).mono ?_; rintro e w' ⟨rfl, rfl⟩)
  clear hmk hc hf
  go_loopw [5] (fun i wr => ∃ k : Nat, k ≤ 7 ∧ i = .int .i64 k ∧ Kept (fun _ => False) w wr ∧ BoolsAt wr w.heap.size (bOut B k))
    (fun i _ => 7 - (intOf i).toNat)
  case atStart =>
    have h1 := HN.out.2
    have h2 := HN.out.1
    rw [World.setCell_alloc_at _ _ _ _ _ rfl] at h1 h2
    exact ⟨0, by omega, rfl, by simpa using h1, by simpa [bOut] using h2⟩
  case round =>
    clear HS HN
    obtain ⟨k, hk, rfl, K, N⟩ := hrel
    obtain ⟨wa, rfl⟩ : ∃ wa : World, wa = wr := ⟨_, rfl⟩
    have hla := K.size
    have hlb := N.lt
    by_cases hlt : k < 7
    · have hkb : decide ((k : Int) < 7) = true := by simp; omega
      have HKN := Lib.hid (And.intro K N)
      clear K N
      go_wp2
      clear hkb
      go_loopw [6] (fun i wr => ∃ s : Nat, s ≤ 7 ∧ i = .int .i64 s ∧ Kept (fun _ => False) w wr ∧ BoolsAt wr w.heap.size (bMid (bOut B k) s))
        (fun i _ => 7 - (intOf i).toNat)
      case atStart => exact ⟨0, by omega, rfl, HKN.out.1, HKN.out.2⟩
      case round =>
        clear HKN
        obtain ⟨x, hx, rfl, K, N⟩ := hrel
        obtain ⟨wb, rfl⟩ : ∃ wb : World, wb = wr := ⟨_, rfl⟩
        by_cases hx7 : x < 7
        · have hxb : decide ((x : Int) < 7) = true := by simp; omega
          have hln : (bMid (bOut B k) x).length = 7 := by rw [bMid_length, bOut_length]; exact HBL.out
          generalize hC : bMid (bOut B k) x = C at N hln
          have HC := Lib.hid hC
          clear hC
          cases hb : C.getD x false with
          | false =>
            have hc := N.get (j := x) (by omega)
            rw [hb] at hc
            have hst : bMid (bOut B k) (x + 1) = C := by rw [bMid, HC.out, if_neg (by rw [hb]; decide)]
            have HX := Lib.hid (And.intro K (And.intro N hst))
            clear K N hb hst hln
            go_wp2
            refine wp_loop_rounds 1 ?_
            rw [rounds_succ]
            go_wp2
            go_roundw
            case rel => exact ⟨x + 1, by omega, by go_num, HX.out.1, by rw [HX.out.2.2]; exact HX.out.2.1⟩
            case measure => simp [intOf]; omega
          | true =>
            have HKN := Lib.hid (And.intro K N)
            have hst : bMid (bOut B k) (x + 1) = bIn C x 6 := by rw [bMid, HC.out, if_pos hb]
            have HB := Lib.hid (And.intro hb (And.intro hst hln))
            clear K N hb hst hln
            go_wp2
            clear hxb
            go_loopw [7] (fun i wr => ∃ t : Nat, 1 ≤ t ∧ t ≤ 7 ∧ i = .int .i64 t ∧ Kept (fun _ => False) w wr ∧ BoolsAt wr w.heap.size (bIn C x (t - 1)))
              (fun i _ => 7 - (intOf i).toNat)
            case atStart => exact ⟨1, by omega, by omega, rfl, HKN.out.1, HKN.out.2⟩
            case round =>
              clear HKN
              obtain ⟨t, ht1, ht7, rfl, K, N⟩ := hrel
              obtain ⟨wc, rfl⟩ : ∃ wc : World, wc = wr := ⟨_, rfl⟩
              by_cases htl : t < 7
              · obtain ⟨j, hj⟩ : ∃ j, t - 1 = j := ⟨_, rfl⟩
                have hj2 : t + 1 - 1 = j + 1 := by omega
                have HL := Lib.hid (rlead_t x t · hx7 ht1 htl)
                rw [hj] at N HL
                have hln : (bIn C x j).length = 7 := by rw [bIn_length]; exact HB.out.2.2
                have hc := N.get (j := x) (by omega)
                rw [bIn_keeps HB.out.1 j] at hc
                have hbd := leadN_bd ⟨x, by omega⟩ ⟨j, by omega⟩
                simp only at hbd
                have htb : decide ((t : Int) ≤ 6) = true := by simp; omega
                have HJ := Lib.hid hj2
                clear hj hj2
                by_cases hq : leadN x j = -1
                · have hst : bIn C x (j + 1) = bIn C x j := by rw [bIn, bAdd, if_pos hq]
                  have HX := Lib.hid (And.intro K (And.intro N hst))
                  rw [hq] at HL
                  clear hq hst K N hln hbd
                  go_wp2_with (go_at_call 38; refine (HL.out _).mono ?_; rintro e w' ⟨rfl, rfl⟩)
                  go_roundw
                  case rel => exact ⟨t + 1, by omega, by omega, by go_num, HX.out.1, by rw [HJ.out, HX.out.2.2]; exact HX.out.2.1⟩
                  case measure => simp [intOf]; omega
                · obtain ⟨l, hl⟩ := Int.eq_ofNat_of_zero_le (show 0 ≤ leadN x j by omega)
                  have hl7 : l < 7 := by omega
                  have hcl := N.get (j := l) (by omega)
                  have hfl := N.fz l
                  have hst : bIn C x (j + 1) = (bIn C x j).set l true := by rw [bIn, bAdd, if_neg hq, hl]; rfl
                  have N2 := N.set (j := l) (by omega) true
                  rw [← hst] at N2
                  have K2 := K.setCell ⟨w.heap.size, l, none⟩ (.bool true) (by simp)
                  have HX := Lib.hid (And.intro K2 N2)
                  rw [hl] at HL
                  generalize (bIn C x j).getD l false = y at hcl
                  clear hq hl hst K N K2 N2 hln hbd
                  go_wp2_with (go_at_call 38; refine (HL.out _).mono ?_; rintro e w' ⟨rfl, rfl⟩)
                  go_roundw
                  case rel => exact ⟨t + 1, by omega, by omega, by go_num, HX.out.1, by rw [HJ.out]; exact HX.out.2⟩
                  case measure => simp [intOf]; omega
              · obtain rfl : t = 7 := by omega
                have HX := Lib.hid (And.intro K N)
                clear K N
                go_wp2
                go_roundw
                case rel => exact ⟨x + 1, by omega, by go_num, HX.out.1, by rw [HB.out.2.1]; exact HX.out.2⟩
                case measure => simp [intOf]; omega
        · obtain rfl : x = 7 := by omega
          have HX := Lib.hid (And.intro K N)
          clear K N
          go_wp2
          go_roundw
          case rel => exact ⟨k + 1, by omega, by go_num, HX.out.1, HX.out.2⟩
          case measure => simp [intOf]; omega
    · obtain rfl : k = 7 := by omega
      have hln : (bOut B 7).length = 7 := by rw [bOut_length]; exact HBL.out
      have HSR2 : Hid (selUpTo (bOut B 7) 7 = reachT s) := HSR
      generalize bOut B 7 = C at N hln HSR2
      have HN := Lib.hid N
      have HK := Lib.hid K
      have HLN := Lib.hid hln
      clear K N HSR hln
      rw [show ((7 : Nat) : Int) = 7 from rfl]
      go_wp2
      go_loopw [8, 9] (fun v i wr => ∃ k : Nat, k ≤ 7 ∧ i = .int .i64 k ∧ wr.ownsRow wa.heap.size 3 1 v (selUpTo C k).length ((selUpTo C k).map (Value.int .i64)) ∧ Kept (fun _ => False) wa wr)
        (fun _ i _ => 7 - (intOf i).toNat)
      case atStart => exact ⟨0, by omega, rfl, World.ownsRow_nil _ _ _ _, Kept.refl _ _⟩
      case round =>
        obtain ⟨j, hj, rfl, hown, K⟩ := hrel
        have hlc := K.size
        by_cases hj7 : j < 7
        · have N := HN.out.same K
          have hc := BoolsAt.get N (j := j) (by have := HLN.out; omega)
          have hsl := selUpTo_len C j
          have hjb : decide ((j : Int) < 7) = true := by simp; omega
          clear N
          cases hb : C.getD j false with
          | false =>
            have HQ := Lib.hid (selUpTo_no hb)
            rw [hb] at hc
            clear hb
            go_wp2
            go_roundw
            case rel => exact ⟨j + 1, by omega, by go_num, by rw [HQ.out]; exact hown, K⟩
            case measure => simp [intOf]; omega
          | true =>
            have HQ := Lib.hid (selUpTo_yes hb)
            rw [hb] at hc
            clear hb
            go_wp2_with (at_builtin; refine wpList_app1 el27 rfl _ _ rfl wa.heap.size u8 (selUpTo C j).length ((selUpTo C j).map (Value.int .i64)) rfl hown rfl rfl ?c1 ?c2 ?c3 ?c4 ?_)
            case c1 => intro u hu; simp at hu; subst hu; rfl
            case c2 => unfold maxLen; omega
            case c3 => omega
            case c4 => omega
            intro g cap w3 hown3 K3
            have hown4 : w3.ownsRow wa.heap.size 3 1 (.slice (some ⟨g, 0, none⟩) ((selUpTo C j).length + 1) cap) (selUpTo C (j + 1)).length ((selUpTo C (j + 1)).map (Value.int .i64)) := by
              rw [HQ.out, List.map_append, List.length_append]; exact hown3
            have KK := K.trans K3 (fun i hi h => by have := (ownsRow_block hown h).1; omega)
            have HX := Lib.hid (And.intro hown4 KK)
            clear hown hown3 hown4 K3 K KK hc
            go_wp2
            go_roundw
            case rel => exact ⟨j + 1, by omega, by go_num, HX.out.1, HX.out.2⟩
            case measure => simp [intOf]; omega
        · obtain rfl : j = 7 := by omega
          go_wp2
          go_ret2
          refine ⟨_, rfl, ?_, HK.out.trans K (fun _ _ h => h)⟩
          rw [← HSR2.out]
          exact ownsRow_base hown hla
theorem rreach_no (s : Int) (w : World) (hs : isSt s = false) : Calls Tryd.prog 26 #[.int .i64 s] w (ReachPost [] 3 w) := by
  have HS := Lib.hid (known_b false s · hs)
  clear hs
  go_enter Tryd.func26, Tryd.ntmps26
  go_wp2_with (go_at_call 44; refine (HS.out _).mono ?_; rintro e w' ⟨rfl, rfl⟩)
  go_ret2
  exact ⟨_, rfl, World.ownsRow_nil _ _ _ _, Kept.refl _ _⟩
theorem rreach_c (s : Int) (l : List Int) (e : Int) (w : World) (h : reachF s = (l, e)) : Calls Tryd.prog 26 #[.int .i64 s] w (ReachPost l e w) := by
  unfold reachF at h
  split at h
  · rename_i hh
    obtain ⟨rfl, rfl⟩ := Prod.mk.inj h
    have hb : 0 ≤ s ∧ s < 7 := by simpa [isSt] using hh
    obtain ⟨m, rfl⟩ := Int.eq_ofNat_of_zero_le hb.1
    exact rreach_yes m w (by omega)
  · rename_i hh; obtain ⟨rfl, rfl⟩ := Prod.mk.inj h; exact rreach_no s w (by simpa using hh)
end Go.Proofs.YthpbejdigllmbaaDoor
