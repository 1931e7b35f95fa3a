/- OcW7: texts for the statements of this seat: contracts of functions, walks, plain laws. Conditions: none. -/
import Derived.Test.YthpbejdigllmbaaDoorOcW4
import Derived.Test.YthpbejdigllmbaaDoorOcSort
namespace Go.Proofs.YthpbejdigllmbaaDoor
open Go.RowKit

def ReachPost (l : List Int) (e : Int) (w : World) (r : Ending) (w' : World) : Prop :=
  ∃ v, r = .returned (.tuple #[v, .int .i64 e]) ∧ w'.ownsRow w.heap.size 3 1 v l.length (l.map (Value.int .i64)) ∧ Kept (fun _ => False) w w'

theorem reach_no (s : Int) (w : World) (hs : isSt s = false) : Calls Tryd.prog 25 #[.int .i64 s] w (ReachPost [] 3 w) := by
  have HS := Lib.hid (isState_b false s · hs)
  clear hs
  go_enter Tryd.func25, Tryd.ntmps25
  go_wp2_with (go_at_call 43; refine (HS.out _).mono ?_; rintro e w' ⟨rfl, rfl⟩)
  go_ret2
  exact ⟨_, rfl, World.ownsRow_nil _ _ _ _, Kept.refl _ _⟩

set_option maxHeartbeats 1000000 in
theorem reach_yes (s : Nat) (w : World) (T : Tbl w) (hs : s < 7) : Calls Tryd.prog 25 #[.int .i64 s] w (ReachPost (reachT s) 0 w) := by
  have HS := Lib.hid (isState_b true (s : Int) · (by simp [isSt]; omega))
  have HT := Lib.hid T
  clear T
  go_enter Tryd.func25, Tryd.ntmps25
  go_wp2_with (go_at_call 43; refine (HS.out _).mono ?_; rintro e w' ⟨rfl, rfl⟩)
  go_loopw [4, 5] (fun v i wr => ∃ k : Nat, k < 8 ∧ k ≤ (rout s k).length ∧ i = .int .i64 k ∧ wr.ownsRow w.heap.size 3 1 v (rout s k).length ((rout s k).map (Value.int .i64)) ∧ Kept (fun _ => False) w wr)
    (fun _ i _ => 8 - (intOf i).toNat)
  case atStart => exact ⟨0, by omega, by omega, rfl, World.ownsRow_lit w #[.int .i64 s] 1 (Nat.le_refl _) (by decide) rfl, (Kept.refl _ w).alloc _⟩
  case round =>
    clear HS
    obtain ⟨k, hk8, hk, rfl, hown, K⟩ := hrel
    obtain ⟨wa, rfl⟩ : ∃ wa : World, wa = wr := ⟨_, rfl⟩
    have hrl := rout_len ⟨s, hs⟩ ⟨k, hk8⟩
    simp only at hrl
    obtain ⟨hrl1, hrl2⟩ := hrl
    have hls := K.size
    obtain ⟨a4, c4, hu4⟩ := (IntsK.of_own hown).len
    subst hu4
    by_cases hlt : k < (rout s k).length
    · obtain ⟨x, hx⟩ : ∃ x, (rout s k)[k]? = some x := ⟨_, List.getElem?_eq_getElem hlt⟩
      have hx7 : isSt x = true := List.all_eq_true.1 hrl2 x (List.mem_of_getElem? hx)
      have hxd : (rout s k).getD k 0 = x := by rw [List.getD_eq_getElem?_getD, hx]; rfl
      have hxb : 0 ≤ x ∧ x < 7 := by simpa [isSt] using hx7
      obtain ⟨m, rfl⟩ := Int.eq_ofNat_of_zero_le hxb.1
      obtain ⟨g, cc, hgv, hgb⟩ := ownsRow_pos hown (by omega)
      injection hgv with hg1 hg2 hg3
      subst hg1 hg3
      clear hg2
      have hcx : wa.cell? ⟨g, k, none⟩ = some (.int .i64 m) := by
        rw [hown.cellAt k (by omega), List.getElem?_map, hx]; rfl
      have hm7 : m < 7 := by omega
      have HR := Lib.hid (row_range (HT.out.same K) m hm7)
      have HI := Lib.hid (fun (j : Nat) (hj : j < 6) (w : World) => run_index1 (P := Tryd.prog) 55 3 6 _ j _ w Tryd.underlying55 Tryd.isAgg3 Tryd.sizeOf3 hj (row_cell m j hj))
      have HSZ : Hid ((Tryd.prog.info? 55).map (·.size) = some ((row6 m).map (Value.int .i64)).length) := Lib.hid (by rw [Tryd.size55]; rfl)
      have HSU := Lib.hid (fun (j : Nat) (hj : j < 6) => (by have := routJ_succ s k j hj; rw [hxd] at this; exact this : routJ s k (j + 1) = rin (routJ s k j) (leadN m j)))
      have HO := Lib.hid hown
      have HK := Lib.hid K
      have hmo := rout_mono ⟨s, hs⟩ ⟨k, by omega⟩ hlt
      have hk7 : k < 7 := by omega
      simp only at hmo
      have HMO := Lib.hid hmo
      generalize (row6 m).map (Value.int .i64) = R at HR HI HSZ
      clear hx hx7 hxd hxb hown K hmo hrl2
      go_wp2_with (refine wpList_load_mid rfl 55 (.tmp 23) rfl 0 (m * 6) rfl R _ HR.out Tryd.underlying55 rfl HSZ.out ?_)
      go_loopw [4, 25] (fun v i wr => ∃ j : Nat, j ≤ 6 ∧ i = .int .i64 j ∧ wr.ownsRow w.heap.size 3 1 v (routJ s k j).length ((routJ s k j).map (Value.int .i64)) ∧ Kept (fun _ => False) w wr)
        (fun _ i _ => 6 - (intOf i).toNat)
      case atStart => exact ⟨0, by omega, rfl, HO.out, HK.out⟩
      case round =>
        clear HO HK hcx
        obtain ⟨j, hj, rfl, hown, K⟩ := hrel
        have hlb := K.size
        have hjl := (routJ_len ⟨s, hs⟩ ⟨k, hk8⟩ ⟨j, by omega⟩).1
        simp only at hjl
        by_cases hj6 : j < 6
        · have hix := HI.out j hj6
          have hsu := HSU.out j hj6
          have hlb := leadN_bd ⟨m, hm7⟩ ⟨j, by omega⟩
          simp only at hlb
          generalize hq : leadN m j = q at hix hsu hlb
          clear hq
          by_cases hq : q = -1
          · subst hq
            have hsu2 : routJ s k (j + 1) = routJ s k j := by rw [hsu]; rfl
            have HY := Lib.hid (And.intro hsu2 (And.intro hown K))
            clear hsu hsu2 hown K
            go_wp2
            go_roundw
            case rel => exact ⟨j + 1, by omega, by go_num, by rw [HY.out.1]; exact HY.out.2.1, HY.out.2.2⟩
            case measure => simp [intOf]; omega
          · have hqb : (q != -1) = true := by simpa using hq
            cases hct : (routJ s k j).contains q with
            | true =>
              have HC := Lib.hid (contains_c u4 (routJ s k j) q true wr (IntsK.of_own hown) (by omega) hct)
              have hsu2 : routJ s k (j + 1) = routJ s k j := by rw [hsu]; unfold rin; rw [hct]; simp
              have HY := Lib.hid (And.intro hsu2 (And.intro hown K))
              clear hsu hsu2 hown K hct hq
              go_wp2_with (go_at_call 36; refine HC.out.mono ?_; rintro e w' ⟨rfl, rfl⟩)
              go_roundw
              case rel => exact ⟨j + 1, by omega, by go_num, by rw [HY.out.1]; exact HY.out.2.1, HY.out.2.2⟩
              case measure => simp [intOf]; omega
            | false =>
              have HC := Lib.hid (contains_c u4 (routJ s k j) q false wr (IntsK.of_own hown) (by omega) hct)
              have hsu2 : routJ s k (j + 1) = routJ s k j ++ [q] := by rw [hsu]; unfold rin; rw [hct]; simp [hq]
              have HY := Lib.hid hsu2
              clear hsu hsu2 hct hq
              go_wp2_with (first | (go_at_call 36; refine HC.out.mono ?_; rintro e w' ⟨rfl, rfl⟩) | (at_builtin; refine wpList_app1 el27 rfl _ _ rfl w.heap.size u4 (routJ s k j).length ((routJ s k j).map (Value.int .i64)) rfl hown rfl rfl ?c1 ?c2 ?c3 ?c4 ?_))
              case c1 => intro u hu; simp at hu; subst hu; rfl
              case c2 => unfold maxLen; omega
              case c3 => omega
              case c4 => omega
              intro g5 cap5 w3 hown3 K3
              have hown4 : w3.ownsRow w.heap.size 3 1 (.slice (some ⟨g5, 0, none⟩) ((routJ s k j).length + 1) cap5) (routJ s k (j + 1)).length ((routJ s k (j + 1)).map (Value.int .i64)) := by
                rw [HY.out, List.map_append, List.length_append]; exact hown3
              have KK := K.trans K3 (fun i hi h => by have := (ownsRow_block hown h).1; omega)
              have HX := Lib.hid (And.intro hown4 KK)
              clear hown hown3 hown4 K3 K KK hix hqb HC
              go_wp2
              go_roundw
              case rel => exact ⟨j + 1, by omega, by go_num, HX.out.1, HX.out.2⟩
              case measure => simp [intOf]; omega
        · obtain rfl : j = 6 := by omega
          have HY := Lib.hid (And.intro hown K)
          clear hown K
          go_wp2
          go_roundw
          case rel => exact ⟨k + 1, by omega, HMO.out, by go_num, by have := HY.out.1; rw [routJ_end _ _ hlt] at this; exact this, HY.out.2⟩
          case measure => simp [intOf]; omega
    · have hke : (rout s k).length = k := by omega
      have he := rout_end ⟨s, hs⟩ ⟨k, hk8⟩ hke
      simp only at he
      have hsrt : srt (rout s k) = reachT s := srt_eq (List.isPerm_iff.1 he.1) he.2
      have HC := Lib.hid (sort_c (rout s k) (by omega) hown)
      have hll : (reachT s).length = (rout s k).length := by rw [← hsrt, srt_length]
      have HL := Lib.hid (And.intro hsrt hll)
      have hbl := fun b (h : (Value.slice a4 (rout s k).length c4).ownBlock = some b) => (ownsRow_block hown h).1
      have HB := Lib.hid hbl
      have HK := Lib.hid K
      clear he hsrt hll hown K hbl hrl2 hke
      go_wp2_with fail
      refine HC.out.mono ?_
      rintro e w2 ⟨rfl, hown2, K2⟩
      go_wp2
      go_ret2
      refine ⟨_, rfl, ?_, HK.out.trans K2 (fun i hi h => by have := HB.out i h; omega)⟩
      rw [HL.out.2, ← HL.out.1]
      exact hown2
theorem reach_c (s : Int) (l : List Int) (e : Int) (w : World) (T : Tbl w) (h : reachF s = (l, e)) : Calls Tryd.prog 25 #[.int .i64 s] w (ReachPost l e w) := by
  unfold reachF at h
  split at h
  · rename_i hh
    obtain ⟨rfl, rfl⟩ := Prod.mk.inj h
    have hb : 0 ≤ s ∧ s < 7 := by simpa [isSt] using hh
    obtain ⟨m, rfl⟩ := Int.eq_ofNat_of_zero_le hb.1
    exact reach_yes m w T (by omega)
  · rename_i hh; obtain ⟨rfl, rfl⟩ := Prod.mk.inj h; exact reach_no s w (by simpa using hh)
end Go.Proofs.YthpbejdigllmbaaDoor
