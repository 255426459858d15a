/- Walks: Spare. -/
import Derived.Test.YtemondlgcmpbbaaGreatDoorMC27
import Derived.Laws.DeepStrings4
namespace Go.Proofs.YtemondlgcmpbbaaGreatDoor
open Go.RowKit

theorem roomN_spare (k : Nat) : roomN (3 * k + 12) = k := by
  unfold roomN
  rw [Int.tdiv_eq_ediv_of_nonneg (by omega)]
  omega
theorem extract_ok (s : Str) (m : Nat) (hm : m ≤ 12) : okVal (s.extract 0 m) := by
  show (s.extract 0 m).size ≤ 12
  rw [ByteArray.size_extract]
  omega

set_option maxRecDepth 100000 in
set_option maxHeartbeats 4000000 in
theorem spare_any (a n : Int) (w : World) (ha : I64 a) (hn : I64 n) :
    Calls Tryz.prog 4 #[.int .i64 a, .int .i64 n] w fun e w' => e = .returned (.bool true) ∧ Below w.heap.size w w' := by
  have HP1 := hide (pickk_fn n 40 w hn (by omega) (by omega))
  have hpl := pickN_lt n 40 (by omega)
  obtain ⟨p, hp⟩ : ∃ p, p = pickN n 40 := ⟨_, rfl⟩
  rw [← hp] at HP1 hpl
  have HPE := hide hp
  obtain ⟨k, hk⟩ : ∃ k : Nat, k = p + 1 := ⟨_, rfl⟩
  have hkp : (1 : Int) + (p : Int) = (k : Int) := by omega
  have hkw : IntKind.i64.wrap (k : Int) = (k : Int) := by rw [IntKind.wrap_i64]; omega
  have hk1 : 1 ≤ k := by omega
  have hk2 : k ≤ 40 := by omega
  have hw1 : IntKind.i64.wrap (3 * (k : Int)) = 3 * (k : Int) := by rw [IntKind.wrap_i64]; omega
  have hw2 : IntKind.i64.wrap (3 * (k : Int) + 12) = 3 * (k : Int) + 12 := by rw [IntKind.wrap_i64]; omega
  have HF := hide (filled_any (3 * k + 12) k w (by omega) (by omega) (by rw [roomN_spare]; omega) (by omega))
  rw [show ((3 * k + 12 : Nat) : Int) = 3 * (k : Int) + 12 by push_cast; rfl] at HF
  have HA := hide ha
  clear hp hk ha hn
  go_enter Tryz.func4, Tryz.ntmps4
  go_wp2_with (first
    | (go_at_call 18; go_loud (first
       | (refine HP2.out.mono ?_; rintro e w' ⟨rfl, rfl⟩)
       | (refine HP1.out.mono ?_; rintro e w' ⟨rfl, rfl⟩)))
    | (go_at_call 19; go_loud (
       refine HF.out.mono ?_; rintro e w1 ⟨b, x, T, r, rfl, hs, hg, hd, hb⟩
       have HP2 := hide (pickk_fn a 2147483648 w1 HA.out (by omega) (by omega))
       have HQ := hide (pickN_lt a 2147483648 (by omega))
       have HS := hide hs
       have HG := hide hg
       have HB := hide hb
       clear hs hg hd hb)))
  go_loopw [8, 9] (fun v i wr => ∃ j q : Nat, j ≤ 30 ∧ q < 2147483648 ∧ v = .int .i64 q ∧ i = .int .i64 j ∧ (∃ K G T r, K ≤ 300 + 200 * j ∧ G ≤ 2 + j ∧ Store w.heap.size wr K b (3 * k + 12) x G (.pointer none) T r ∧ Good (VK k) T) ∧ Below w.heap.size w wr) (fun _ i _ => 30 - (intOf i).toNat)
  case atStart => exact ⟨0, _, Nat.zero_le _, HQ.out, rfl, rfl, ⟨_, _, T, r, Nat.le_refl _, Nat.le_refl _, HS.out, HG.out⟩, HB.out⟩
  case round =>
    obtain ⟨j, q0, hj, hq0, rfl, rfl, ⟨K, G, T, r, hK, hG, hs, hg⟩, hb⟩ := hrel
    by_cases hlt : j < 30
    · have k2 : (j : Int) < 30 := by omega
      have HBG := hide (st_begin hs)
      have HG := hide hg
      have HB := hide hb
      have HKG := hide (And.intro hK hG)
      clear hs hg hb hK hG
      go_wp2_with (go_at_call 22; go_loud (
         refine HBG.out.mono ?_; rintro e w6 ⟨t, rfl, hs6, ht6, hb6⟩
         have HS6 := hide hs6
         have HT6 := hide ht6
         have HB6 := hide hb6
         clear hs6 ht6 hb6))
      go_loopw [8, 12] (fun v i wr => ∃ i' q : Nat, i' ≤ 2 * k ∧ q < 2147483648 ∧ v = .int .i64 q ∧ i = .int .i64 i' ∧ Store w.heap.size wr K b (3 * k + 12) x G (.pointer (some ⟨t, 0, none⟩)) T r ∧ (∃ T1 rp ds stamp, Trans w.heap.size wr t x i' T1 rp ds stamp ∧ Good (VK k) T1) ∧ Below w.heap.size w wr) (fun _ i _ => 2 * k - (intOf i).toNat)
      case atStart => exact ⟨0, q0, Nat.zero_le _, hq0, rfl, rfl, HS6.out, ⟨_, _, _, _, HT6.out, HG.out⟩, HB.out.trans HB6.out⟩
      case round =>
        obtain ⟨i, q1, hi, hq1, rfl, rfl, hs, ⟨T1, rp, ds, stamp, ht, hg1⟩, hb⟩ := hrel
        have c1 : (q1 : Int).tdiv 64 = (q1 : Int) / 64 := Int.tdiv_eq_ediv_of_nonneg (by omega)
        have c2 : IntKind.i64.wrap ((q1 : Int) / 64) = (q1 : Int) / 64 := by rw [IntKind.wrap_i64]; omega
        have c3 : IntKind.i64.wrap (2 * (k : Int)) = 2 * (k : Int) := by rw [IntKind.wrap_i64]; omega
        have c4 : ¬ 2 * (k : Int) = 0 := by omega
        have c4' : ¬ (k : Int) = 0 := by omega
        have c5 : ((q1 : Int) / 64).tmod (2 * (k : Int)) = (q1 : Int) / 64 % (2 * (k : Int)) := Int.tmod_eq_emod_of_nonneg (by omega)
        have hM0 : 0 ≤ (q1 : Int) / 64 % (2 * (k : Int)) := Int.emod_nonneg _ c4
        have hM1 : (q1 : Int) / 64 % (2 * (k : Int)) < 2 * (k : Int) := Int.emod_lt_of_pos _ (by omega)
        have c6 : IntKind.i64.wrap ((q1 : Int) / 64 % (2 * (k : Int))) = (q1 : Int) / 64 % (2 * (k : Int)) := by rw [IntKind.wrap_i64]; omega
        have c7 : IntKind.i64.wrap (1 + (q1 : Int) / 64 % (2 * (k : Int))) = 1 + (q1 : Int) / 64 % (2 * (k : Int)) := by rw [IntKind.wrap_i64]; omega
        by_cases hlt2 : (i : Int) < 1 + (q1 : Int) / 64 % (2 * (k : Int))
        · have hi1 : i + 1 ≤ 2 * k := by omega
          have HMX := hide (mixed_fn q1 wr hq1)
          have hql := mixedN_lt q1
          obtain ⟨q, hq⟩ : ∃ q, q = mixedN q1 := ⟨_, rfl⟩
          rw [← hq] at HMX hql
          clear hq
          have d1 : (q : Int).tdiv 1024 = (q : Int) / 1024 := Int.tdiv_eq_ediv_of_nonneg (by omega)
          have d2 : IntKind.i64.wrap ((q : Int) / 1024) = (q : Int) / 1024 := by rw [IntKind.wrap_i64]; omega
          have d3 : ((q : Int) / 1024).tmod k = (q : Int) / 1024 % k := Int.tmod_eq_emod_of_nonneg (by omega)
          have hik : q / 1024 % k < k := Nat.mod_lt _ (by omega)
          have hci : ((q / 1024 % k : Nat) : Int) = (q : Int) / 1024 % (k : Int) := by push_cast; rfl
          have d4 : IntKind.i64.wrap ((q : Int) / 1024 % (k : Int)) = (q : Int) / 1024 % (k : Int) := by rw [← hci, IntKind.wrap_i64]; omega
          have e1 : (q : Int).tdiv 16 = (q : Int) / 16 := Int.tdiv_eq_ediv_of_nonneg (by omega)
          have e2 : IntKind.i64.wrap ((q : Int) / 16) = (q : Int) / 16 := by rw [IntKind.wrap_i64]; omega
          have e3 : ((q : Int) / 16).tmod 3 = (q : Int) / 16 % 3 := Int.tmod_eq_emod_of_nonneg (by omega)
          have e4 : IntKind.i64.wrap ((q : Int) / 16 % 3) = (q : Int) / 16 % 3 := by rw [IntKind.wrap_i64]; omega
          have f1 : (q : Int).tdiv 256 = (q : Int) / 256 := Int.tdiv_eq_ediv_of_nonneg (by omega)
          have f2 : IntKind.i64.wrap ((q : Int) / 256) = (q : Int) / 256 := by rw [IntKind.wrap_i64]; omega
          have f3 : ((q : Int) / 256).tmod 13 = (q : Int) / 256 % 13 := Int.tmod_eq_emod_of_nonneg (by omega)
          have f4 : IntKind.i64.wrap ((q : Int) / 256 % 13) = (q : Int) / 256 % 13 := by rw [IntKind.wrap_i64]; omega
          have f5 : 0 ≤ (q : Int) / 256 % 13 := by omega
          have f6 : (q : Int) / 256 % 13 ≤ 12 := by omega
          have hm12 : q / 256 % 13 ≤ 12 := by omega
          have HW := hide (wide_fn (q / 1024 % k) wr (by omega))
          rw [hci] at HW
          have HIK := hide hik
          have HS := hide hs
          have HT := hide ht
          have HG1 := hide hg1
          have HB1 := hide hb
          have HQL := hide hql
          have HM12 := hide hm12
          clear hs ht hg1 hb hik hci hql hm12 c1 c5 hM0 hM1
          by_cases hq3 : (q : Int) / 16 % 3 = 0
          all_goals (
            go_wp2_with (first
              | (go_at_call 20; go_loud (refine HMX.out.mono ?_; rintro e w' ⟨rfl, rfl⟩))
              | (go_at_call 21; go_loud (
                 refine HW.out.mono ?_; rintro e w5 ⟨rfl, hb5⟩
                 have hrm : (T1.get (wideK (q / 1024 % k))).isSome = true ∨ (T1.keys : Int) < roomN (3 * k + 12) := (HG1.out.room_wide HIK.out).imp id fun h => by rw [roomN_spare]; omega
                 have HPT := hide (fun (V : Str) (hv : okVal V) => st_put (wideK (q / 1024 % k)) V (HS.out.below hb5) (HT.out.below hb5) HG1.out.tr HG1.out.pairs (wideK_ok _) hv (by omega) hrm)
                 have HDL := hide (st_delete (wideK (q / 1024 % k)) (HS.out.below hb5) (HT.out.below hb5) HG1.out.tr HG1.out.pairs (wideK_ok _) (by omega))
                 have HB5 := hide hb5
                 clear hb5 hrm))
              | (go_at_call 24; go_loud (
                 refine (HPT.out ((⟨#[98, 97, 57, 56, 55, 54, 53, 52, 51, 50, 49, 48]⟩ : ByteArray).extract 0 (q / 256 % 13)) (extract_ok _ _ HM12.out)).mono ?_; rintro e w7 ⟨rfl, hs7, ⟨rp', ds', ht7⟩, hb7⟩
                 have hgd := (HG1.out.put_wide HIK.out (by omega) (extract_ok (⟨#[98, 97, 57, 56, 55, 54, 53, 52, 51, 50, 49, 48]⟩ : ByteArray) (q / 256 % 13) HM12.out)).1
                 obtain ⟨T2, ht7, hg7⟩ : ∃ T2, Trans w.heap.size w7 t x (i + 1) T2 rp' ds' (stamp + 1) ∧ Good (VK k) T2 := ⟨_, ht7, hgd⟩
                 have HS7 := hide hs7
                 have HT7 := hide ht7
                 have HG7 := hide hg7
                 have HB7 := hide hb7
                 clear hs7 ht7 hg7 hb7 hgd))
              | (go_at_call 23; go_loud (
                 refine HDL.out.mono ?_; rintro e w7 ⟨rfl, hs7, ⟨rp', ds', ht7⟩, hb7⟩
                 obtain ⟨T2, ht7, hg7⟩ : ∃ T2, Trans w.heap.size w7 t x (i + 1) T2 rp' ds' (stamp + 1) ∧ Good (VK k) T2 := ⟨_, ht7, (HG1.out.del_wide (q / 1024 % k)).1⟩
                 have HS7 := hide hs7
                 have HT7 := hide ht7
                 have HG7 := hide hg7
                 have HB7 := hide hb7
                 clear hs7 ht7 hg7 hb7)))
            go_roundw
            case rel => exact ⟨i + 1, q, hi1, HQL.out, rfl, by go_num, HS7.out, ⟨_, _, _, _, HT7.out, HG7.out⟩, HB1.out.trans ((HB5.out.mono HB1.out.size).trans HB7.out)⟩
            case measure => simp [intOf]; omega)
        · have g1 : (q1 : Int).tdiv 16 = (q1 : Int) / 16 := Int.tdiv_eq_ediv_of_nonneg (by omega)
          have g2 : IntKind.i64.wrap ((q1 : Int) / 16) = (q1 : Int) / 16 := by rw [IntKind.wrap_i64]; omega
          have g3 : ((q1 : Int) / 16).tmod 5 = (q1 : Int) / 16 % 5 := Int.tmod_eq_emod_of_nonneg (by omega)
          have g4 : IntKind.i64.wrap ((q1 : Int) / 16 % 5) = (q1 : Int) / 16 % 5 := by rw [IntKind.wrap_i64]; omega
          have HAB := hide (st_abort hs ht)
          have HC := hide (st_commit hs ht hg1 HG.out (by omega) (by have := HKG.out.2; omega) (by have := HKG.out.1; unfold edge; omega) (by have := VK.keys hg1.tr.tw hg1.tk; have := VK.keys HG.out.tr.tw HG.out.tk; omega) (by have := hg1.dirty_le; omega))
          have HB1 := hide hb
          have HQ1 := hide hq1
          clear hs ht hg1 hb hM0 hM1
          by_cases hq5 : (q1 : Int) / 16 % 5 = 0
          all_goals (
            go_wp2_with (first
              | (go_at_call 27; go_loud (
                 refine HAB.out.mono ?_; rintro e w8 ⟨rfl, hs8, -, hb8⟩
                 obtain ⟨K', G', T', r', hK', hG', hs8, hg8⟩ : ∃ K' G' T' r', K' ≤ 300 + 200 * (j + 1) ∧ G' ≤ 2 + (j + 1) ∧ Store w.heap.size w8 K' b (3 * k + 12) x G' (.pointer none) T' r' ∧ Good (VK k) T' := ⟨_, _, _, _, by have := HKG.out.1; omega, by have := HKG.out.2; omega, hs8, HG.out⟩
                 have HS8 := hide hs8
                 have HG8 := hide hg8
                 have HB8 := hide hb8
                 have HKG8 := hide (And.intro hK' hG')
                 clear hs8 hg8 hb8 hK' hG'))
              | (go_at_call 26; go_loud (
                 refine HC.out.mono ?_; rintro e w8 ⟨rfl, ⟨T0, r0, hs8, hg8, -, -, -, -⟩, hb8⟩
                 obtain ⟨K', G', T', r', hK', hG', hs8, hg8⟩ : ∃ K' G' T' r', K' ≤ 300 + 200 * (j + 1) ∧ G' ≤ 2 + (j + 1) ∧ Store w.heap.size w8 K' b (3 * k + 12) x G' (.pointer none) T' r' ∧ Good (VK k) T' := ⟨_, _, _, _, by have := HKG.out.1; omega, by have := HKG.out.2; omega, hs8, hg8⟩
                 have HS8 := hide hs8
                 have HG8 := hide hg8
                 have HB8 := hide hb8
                 have HKG8 := hide (And.intro hK' hG')
                 clear hs8 hg8 hb8 hK' hG')))
            go_roundw
            case rel => exact ⟨j + 1, q1, by omega, HQ1.out, rfl, by go_num, ⟨K', G', T', r', HKG8.out.1, HKG8.out.2, HS8.out, HG8.out⟩, HB1.out.trans HB8.out⟩
            case measure => simp [intOf]; omega)
    · have hnl : ¬ (j : Int) < 30 := by omega
      have HB := hide hb
      clear hs hg hb
      go_wp2
      go_ret
      exact ⟨rfl, HB.out⟩
end Go.Proofs.YtemondlgcmpbbaaGreatDoor
