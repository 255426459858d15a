/- Sq Bb No Ab Abl: merged. -/
import Derived.Test.YtemondlgcmpbbaaGreatDoorMC31
import Derived.Laws.StructEq
import Derived.RegionTactic
import Derived.BigRegion
import Derived.Test.YtemondlgcmpbbaaGreatDoorMC32
import Derived.Test.YtemondlgcmpbbaaGreatDoorMC06
import Derived.Test.YtemondlgcmpbbaaGreatDoorMC27
import Derived.OwnWalk
import Derived.Test.YtemondlgcmpbbaaGreatDoorMC30
import Derived.Test.YtemondlgcmpbbaaGreatDoorMC18
import Derived.Test.YtemondlgcmpbbaaGreatDoorMC29
/- Walks: shadowkeep's same. -/
namespace Go.Proofs.YtemondlgcmpbbaaGreatDoor
open Go.RowKit

theorem pair_fields : (Tryz.prog.fieldsOf 68).toList.map (fun f => (f.name == "_", f.type, f.offset)) = [(false, 9, 0), (false, 9, 1)] := by kernel_rfl
theorem pair_struct : Tryz.prog.underlying 68 = some (.struct (Tryz.prog.fieldsOf 68)) := by kernel_rfl
theorem pair_stood : Tryz.prog.stoodInHeld 68 = false := by kernel_rfl
theorem pair_guard : Tryz.prog.eqGuardType Tryz.prog.depth 68 = false := by kernel_rfl
def eqP (a b : Str × Str) : Bool := seq a.1 b.1 && seq a.2 b.2
theorem eqP_iff (a b : Str × Str) : eqP a b = true ↔ a = b := by
  unfold eqP
  rw [Bool.and_eq_true]
  refine ⟨fun ⟨h1, h2⟩ => Prod.ext (seq_iff.1 h1) (seq_iff.1 h2), fun h => by subst h; exact ⟨seq_self _, seq_self _⟩⟩
theorem info_string : (Tryz.prog.info? 9).map (fun i => i.size) = some 1 := by kernel_rfl
theorem eq_pair (w : World) (a b : Str × Str) : (Op.equalIn 10000 68 (.agg #[.string a.1, .string a.2]) (.agg #[.string b.1, .string b.2])).run Tryz.prog w = .ok (eqP a b) w := by
  rw [run_equalIn_struct w 9999 _ _ _ pair_struct pair_stood]
  have h := pair_fields
  generalize (Tryz.prog.fieldsOf 68).toList = fs at h
  obtain ⟨j, hj, hz⟩ := Option.map_eq_some_iff.1 info_string
  match fs, h with
  | [f, g], h =>
    simp only [List.map_cons, List.map_nil, List.cons.injEq, Prod.mk.injEq, and_true] at h
    obtain ⟨⟨f1, f2, f3⟩, g1, g2, g3⟩ := h
    have f1' : f.name ≠ "_" := by simpa using f1
    have g1' : g.name ≠ "_" := by simpa using g1
    simp only [Op.eqFields, f1', g1', f2, f3, g2, g3, ne_eq, not_false_eq_true, if_true]
    have e1 := run_equalIn_string (P := Tryz.prog) w 9998 9 a.1 b.1 Tryz.underlying9
    have e2 := run_equalIn_string (P := Tryz.prog) w 9998 9 a.2 b.2 Tryz.underlying9
    simp [part, sizeOf, typeInfo, e1, e2, Result.andThen]
    unfold eqP seq
    by_cases h1 : a.1.toList = b.1.toList <;> by_cases h2 : a.2.toList = b.2.toList <;> simp [h1, h2]
  | [], h => simp at h
  | [_], h => simp at h
  | _ :: _ :: _ :: _, h => simp at h

theorem pairCells_len (l : List (Str × Str)) : (pairCells l).length = l.length * 2 := by
  induction l with
  | nil => rfl
  | cons a l ih => show ([Value.string a.1, Value.string a.2] ++ pairCells l).length = _; rw [List.length_append, ih, List.length_cons]; simp; omega
theorem pairCells_at : ∀ (l : List (Str × Str)) (k : Nat) (h : k < l.length), (pairCells l)[k * 2]? = some (.string l[k].1) ∧ (pairCells l)[k * 2 + 1]? = some (.string l[k].2)
  | a :: l, 0, _ => ⟨rfl, rfl⟩
  | a :: l, k + 1, h => by
    have := pairCells_at l k (by simpa using h)
    have e : pairCells (a :: l) = Value.string a.1 :: Value.string a.2 :: pairCells l := rfl
    rw [e, show (k + 1) * 2 = k * 2 + 1 + 1 by omega]
    exact this
theorem PRow.cells {w : World} {v : Value} {l : List (Str × Str)} (h : PRow w v l) : (v = .slice none 0 0 ∧ l = []) ∨ ∃ g c, v = .slice (some ⟨g, 0, none⟩) l.length c ∧ l.length ≤ c ∧ c ≤ maxLen ∧ ∀ k (hk : k < l.length), w.cell? ⟨g, k * 2, none⟩ = some (.string l[k].1) ∧ w.cell? ⟨g, k * 2 + 1, none⟩ = some (.string l[k].2) := by
  obtain ⟨base, h1, h2⟩ := h
  rcases h2 with ⟨h0, h3⟩ | ⟨g, cap, cur, hv, _, hg, a1, a2, a3, a4⟩
  · exact .inl ⟨h0, List.length_eq_zero_iff.1 h3⟩
  · refine .inr ⟨g, cap, hv, a1, a2, fun k hk => ?_⟩
    have hb : Blk w g 68 cur := hg
    have hc := pairCells_at l k hk
    rw [← a4] at hc
    rw [List.getElem?_take_of_lt (by omega), List.getElem?_take_of_lt (by omega)] at hc
    exact ⟨cellOf hb _ (by simpa using hc.1), cellOf hb _ (by simpa using hc.2)⟩

set_option maxRecDepth 100000 in
set_option maxHeartbeats 1000000 in
theorem same_any (va vb : Value) (la lb : List (Str × Str)) (w : World) (ha : PRow w va la) (hb : PRow w vb lb) (h1 : la.length ≤ 1000) (h2 : lb.length ≤ 1000) :
    Calls Tryz.prog 33 #[va, vb] w fun e w' => e = .returned (.bool (decide (la = lb))) ∧ Below w.heap.size w w' := by
  have hva : ∃ A c, va = .slice A la.length c := ha.form
  have hvb : ∃ A c, vb = .slice A lb.length c := hb.form
  have hca := ha.cells
  have hcb := hb.cells
  obtain ⟨A, ca, rfl⟩ := hva
  obtain ⟨B, cb, rfl⟩ := hvb
  clear ha hb
  by_cases hl : la.length = lb.length
  · obtain ⟨n, hn⟩ : ∃ n, n = la.length := ⟨_, rfl⟩
    rw [← hl]
    rw [← hn] at h1 ⊢
    have HN := hide hn
    have HL := hide hl
    have HA := hide (fun k (hk : k < n) (hk' : k < la.length) => (show ∃ g, A = some ⟨g, 0, none⟩ ∧ n ≤ ca ∧ w.cell? ⟨g, k * 2, none⟩ = some (.string la[k].1) ∧ w.cell? ⟨g, k * 2 + 1, none⟩ = some (.string la[k].2) by
      rcases hca with ⟨_, rfl⟩ | ⟨g, c, e, e1, _, e3⟩
      · simp at hn; omega
      · injection e with x y z
        subst z
        exact ⟨g, x, by omega, e3 k (by omega)⟩))
    have HB := hide (fun k (hk : k < n) (hk' : k < lb.length) => (show ∃ g, B = some ⟨g, 0, none⟩ ∧ n ≤ cb ∧ w.cell? ⟨g, k * 2, none⟩ = some (.string lb[k].1) ∧ w.cell? ⟨g, k * 2 + 1, none⟩ = some (.string lb[k].2) by
      rcases hcb with ⟨_, rfl⟩ | ⟨g, c, e, e1, _, e3⟩
      · simp at hl; subst hl; simp at hn; omega
      · injection e with x y z
        subst z
        exact ⟨g, x, by omega, e3 k (by omega)⟩))
    have hee : ((n : Int) != (n : Int)) = false := by simp
    clear hca hcb hn hl h2
    go_enter Tryz.func33, Tryz.ntmps33
    go_wp2
    go_loopw [5] (fun i wr => ∃ k : Nat, k ≤ n ∧ la.take k = lb.take k ∧ i = .int .i64 k ∧ Below w.heap.size w wr) (fun i _ => n - (intOf i).toNat)
    case atStart => exact ⟨0, Nat.zero_le _, by simp, rfl, Below.refl _ _⟩
    case round =>
      obtain ⟨k, hk, ht, rfl, hbw⟩ := hrel
      have HT := hide ht
      clear ht
      by_cases hlt : k < n
      · have m0 : (0 : Int) ≤ (k : Int) := by omega
        have m1 : (k : Int) < (n : Int) := by omega
        have hka : k < la.length := by have := HN.out; omega
        have hkb : k < lb.length := by have := HN.out; have := HL.out; omega
        obtain ⟨ga, rfl, hc1, a1, a2⟩ := HA.out k hlt hka
        obtain ⟨gb, rfl, hc2, b1, b2⟩ := HB.out k hlt hkb
        replace a1 := below_cell a1 hbw
        replace a2 := below_cell a2 hbw
        replace b1 := below_cell b1 hbw
        replace b2 := below_cell b2 hbw
        obtain ⟨pa, hpa⟩ : ∃ pa, pa = la[k] := ⟨_, rfl⟩
        obtain ⟨pb, hpb⟩ : ∃ pb, pb = lb[k] := ⟨_, rfl⟩
        rw [← hpa] at a1 a2
        rw [← hpb] at b1 b2
        have HPA := hide hpa
        have HPB := hide hpb
        have HBW := hide hbw
        clear hpa hpb hbw
        have hno : ¬ pa = pb → decide (la = lb) = false := fun h => by
          simp only [decide_eq_false_iff_not]
          intro e
          apply h
          rw [HPA.out, HPB.out]
          subst e
          rfl
        have HNO := hide hno
        clear hno
        by_cases h1' : pa.1.toList = pb.1.toList
        · by_cases h2' : pa.2.toList = pb.2.toList
          · go_wp2
            go_region
            go_wp2
            have hpp : pa = pb := (eqP_iff pa pb).1 (by unfold eqP seq; simp [h1', h2'])
            go_roundw
            case rel => exact ⟨k + 1, by omega, by rw [take_snoc hka, take_snoc hkb, HT.out, ← HPA.out, ← HPB.out, hpp], by go_num, HBW.out.drew⟩
            case measure => simp [intOf]; omega
          · go_wp2
            go_region
            go_wp2
            go_ret
            exact ⟨by rw [HNO.out (fun e => h2' (by rw [e]))]; rfl, HBW.out.drew⟩
        · go_wp2
          go_region
          go_wp2
          go_ret
          exact ⟨by rw [HNO.out (fun e => h1' (by rw [e]))]; rfl, HBW.out.drew⟩
      · have m1 : ¬ (k : Int) < (n : Int) := by omega
        have HBW := hide hbw
        clear hbw
        go_wp2
        go_ret
        refine ⟨?_, HBW.out⟩
        have hkn : k = n := by omega
        have e := HT.out
        rw [hkn, List.take_of_length_le (Nat.le_of_eq HN.out.symm), List.take_of_length_le (Nat.le_of_eq (HL.out.symm.trans HN.out.symm))] at e
        rw [show decide (la = lb) = true by simpa using e]
        rfl
  · have hne : ¬ (la.length : Int) = (lb.length : Int) := by omega
    have hneb : ((la.length : Int) != (lb.length : Int)) = true := by simpa using hne
    have hdec : decide (la = lb) = false := by simp; intro e; exact hl (by rw [e])
    have HD := hide hdec
    clear hca hcb hdec hl
    go_enter Tryz.func33, Tryz.ntmps33
    go_wp2
    go_ret
    exact ⟨by rw [HD.out]; rfl, Below.refl _ _⟩
end Go.Proofs.YtemondlgcmpbbaaGreatDoor

/- Walks: shadowkeep's begun. -/
namespace Go.Proofs.YtemondlgcmpbbaaGreatDoor
open Go.RowKit

theorem put_pairs_ne {t : Tree} (hw : TW t) {k v : Str} (h1 : okKey k) (h2 : okVal v) : (t.put k v).pairs ≠ [] := by
  obtain ⟨e1, _⟩ := put_pairs hw h1 h2 (key := k) (v := v)
  rw [e1]
  unfold lput
  simp

set_option maxRecDepth 100000 in
set_option maxHeartbeats 4000000 in
/-- A disk of n blocks with a store in which something is committed. -/
theorem begun_any (n : Nat) (a : Int) (w : World) (hn : 100 ≤ n ∧ n ≤ 400) (ha : I64 a) :
    Calls Tryz.prog 28 #[.int .i64 n, .int .i64 a] w fun e w' => ∃ b x v K T r, e = .returned (.tuple #[.pointer (some ⟨b, 0, none⟩), .pointer (some ⟨x, 0, none⟩), v]) ∧ K ≤ 300 ∧ StoreR w.heap.size w' K b n x 2 (.pointer none) T r [] ∧ Good V21 T ∧ tdirty T = 0 ∧ T.pairs ≠ [] ∧ PRow w' v T.pairs ∧ Below w.heap.size w w' := by
  have hB : 8 ≤ n ∧ n ≤ 400 := by omega
  have hroom : (22 : Int) ≤ roomN n := by unfold roomN; rw [Int.tdiv_eq_ediv_of_nonneg (by omega)]; omega
  have hbn : blocksN n = n := by unfold blocksN; rw [if_neg (by omega)]; omega
  have HN := hide (newDisk_any n w.heap.size w (Nat.le_refl _))
  rw [hbn] at HN
  have hf : fitsN n = true := (fitsN_iff n).2 hB
  have HPK := hide (fun W => pickk_fn a 40 W ha (by omega) (by omega))
  have hpl := pickN_lt a 40 (by omega)
  obtain ⟨p, hp⟩ : ∃ p, p = pickN a 40 := ⟨_, rfl⟩
  rw [← hp] at HPK hpl
  have HPE := hide hp
  have hp3 : IntKind.i64.wrap (3 + (p : Int)) = ((3 + p : Nat) : Int) := by rw [IntKind.wrap_i64]; omega
  have HHB := hide hB
  have HHN := hide hn
  have HRM := hide hroom
  have HFT := hide hf
  have HA := hide ha
  have HPL := hide hpl
  clear hbn hB hn hroom hf hp ha hpl
  go_enter Tryz.func28, Tryz.ntmps28
  go_wp2_with (first
    | (go_at_call 49; go_loud (
       refine HN.out.mono ?_; rintro e w1 ⟨b, g, rfl, hd1, hb1, hg1, hB1⟩
       have HF := hide (sformat_any _ _ _ _ _ _ _ _ _ _ hd1 Nums.new_calm (by decide) HFT.out)
       have HD1 := hide hd1
       have HB1 := hide hB1
       have HBG := hide (And.intro hb1 hg1)
       clear hd1 hb1 hg1 hB1))
    | (go_at_call 50; go_loud (
       refine HF.out.mono ?_; rintro e w2 ⟨rfl, hd2, ho2⟩
       obtain ⟨hdd, tl, hh, hz0, hHz⟩ := format_heads (bytes := List.replicate (n * 128) 0) (n := n) (G := 0) (by simp) HHB.out.1 (Hz_zero _ _) (by decide)
       have HO := hide (sopen_zero _ _ _ _ _ _ _ _ _ _ hd2 (((ticks_calm Nums.new_calm 2).tick.wrote).tick) (by decide) HFT.out hdd tl hh hz0)
       have HHD := hide (show hdd.slot < 2 ∧ hdd.gen ≤ 1 from ⟨(headUp_slot _ 2 hdd (headsN_mem _ hdd (by rw [hh]; simp))).1, (hHz.heads hdd (by rw [hh]; simp)).2⟩)
       have HC2 := hide (((ticks_calm Nums.new_calm 2).tick.wrote).tick)
       have HO2 := hide ho2
       clear hd2 ho2 hh hHz))
    | (go_at_call 38; go_loud (
       refine HO.out.mono ?_; rintro e w3 ⟨x, dk, rd, rfl, hdb, hrd, hdk, hx, hdkl, hrdl, hd3, ho3⟩
       have hs1 := HB1.out.size
       have hs2 := HO2.out.size
       have hw2 : w.heap.size ≤ w2.heap.size := Nat.le_trans hs1 hs2
       obtain ⟨m3, hm3, bytes3, hd3⟩ : ∃ m3 : Nums, m3.calm ∧ ∃ bytes3, Dk w3 (0 + 5 + 3) b g w.heap.size n (.slice none 0 0) m3 bytes3 [] := ⟨_, ticks_calm HC2.out 3, _, hd3⟩
       have hst : StoreR w.heap.size w3 8 b n x 1 (.pointer none) ⟨none, 0⟩ ⟨g, w.heap.size, m3, bytes3, dk, rd, hdd, .pointer none⟩ [] := Store.toR ⟨hd3, hm3, hdk, HHD.out.1, HHD.out.2, hdb, hrd, .inl ⟨rfl, rfl, rfl⟩, HBG.out.1, HBG.out.2, Nat.le_trans hw2 hdkl, Nat.le_trans hw2 hx, Nat.le_trans hw2 hrdl⟩
       have HWR := hide (writing_any a (3 + p) HA.out (by have := HPL.out; omega) hst Good.empty HRM.out)
       have HB3 := hide (show Below w.heap.size w w3 from (HB1.out.trans ((HO2.out.trans ho3).to_below hs1 (fun y e => by rcases e with rfl | rfl; exact HBG.out.1; exact HBG.out.2))))
       clear hst hdb hrd hdk hx hdkl hrdl hd3 ho3 hs1 hs2 hm3 hw2))
    | (go_at_call 18; go_loud (refine (HPK.out _).mono ?_; rintro e w' ⟨rfl, rfl⟩))
    | (go_at_call 29; go_loud (
       refine HWR.out.mono ?_; rintro e w4 ⟨t, v4, T2, rp2, ds2, st2, rfl, hs4, ht4, hg4, -, hk4⟩
       have HP4 := hide (sr_put sFirst sOfAll hs4 ht4 hg4.tr hg4.pairs sFirst_ok sOfAll_ok (by have := HPL.out; omega) (.inr (by have := hg4.keys21; have := HRM.out; omega)))
       unfold sFirst sOfAll at HP4
       have HG4 := hide hg4
       have HK4 := hide hk4
       clear hs4 ht4 hg4 hk4))
    | (go_at_call 24; go_loud (
       refine HP4.out.mono ?_; rintro e w5 ⟨rfl, hs5, ⟨rp5, ds5, ht5⟩, hk5⟩
       obtain ⟨T5, ht5, hg5, hne5⟩ : ∃ T5, Trans w.heap.size w5 t x (3 + p + 1) T5 rp5 ds5 (st2 + 1) ∧ Good V21 T5 ∧ T5.pairs ≠ [] := ⟨_, ht5, (HG4.out.put21 V21.first sFirst_ok sOfAll_ok).1, put_pairs_ne HG4.out.tr.tw sFirst_ok sOfAll_ok⟩
       have HAL := hide (kall_any t x _ _ T5 ds5 w5 ht5.tx hs5.db rfl rfl rfl ht5.tree hg5.tr hg5.pairs hg5.key8)
       have HS5 := hide hs5
       have HT5 := hide ht5
       have HG5 := hide hg5
       have HK5 := hide hk5
       have HNE := hide hne5
       clear hs5 ht5 hg5 hk5 hne5))
    | (go_at_call 32; go_loud (
       refine HAL.out.mono ?_; rintro e w6 ⟨v6, rfl, hrow, hb6⟩
       obtain ⟨A6, c6, rfl⟩ := hrow.form
       have hl0 : ¬ (T5.pairs.length : Int) = 0 := by have := HNE.out; have := mt List.length_eq_zero_iff.1 this; omega
       have hl1 : ((T5.pairs.length : Int) == 0) = false := by simpa using hl0
       have HC := hide (sr_commit (HS5.out.below hb6) (HT5.out.below hb6) HG5.out (Good.empty (V := V21)) HHB.out (by decide) (by decide) (by have := HG5.out.keys21; have := HHN.out.1; show T5.keys + 0 + 10 ≤ n; omega) (by have := HG5.out.dirty_le; omega))
       have HROW := hide hrow
       have HB6 := hide hb6
       clear hrow hb6))
    | (go_at_call 26; go_loud (
       refine HC.out.mono ?_; rintro e w7 ⟨rfl, ⟨T', r', hs7, hg7, hd7, hp7, -, -⟩, hk7⟩
       have HNW := hide (know_any hs7 (by decide) hg7.tr hg7.pairs hg7.key8)
       have HG7 := hide hg7
       have HD7 := hide hd7
       have HP7 := hide hp7
       have HK7 := hide hk7
       clear hs7 hg7 hd7 hp7 hk7))
    | (go_at_call 31; go_loud (
       refine HNW.out.mono ?_; rintro e w8 ⟨v8, rfl, hrow8, hs8, -, hk8⟩
       have HSM := hide (same_any _ v8 T5.pairs T'.pairs w8 ((HROW.out.kp HK7.out).kp hk8) hrow8 (by have := HG5.out.pairs; omega) (by have := HG7.out.pairs; omega))
       rw [show decide (T5.pairs = T'.pairs) = true by simp [HP7.out]] at HSM
       have HS8 := hide hs8
       have HK8 := hide hk8
       clear hrow8 hs8 hk8))
    | (go_at_call 33; go_loud (refine HSM.out.mono ?_; rintro e w9 ⟨rfl, hb9⟩; have HB9 := hide hb9; clear hb9)))
  refine bodyPost_ret (results_tmp3 rfl _ _ _) rfl ?_
  have hk9 : KpP w.heap.size w8 w9 := KpP.of_below HB9.out HS8.out.size
  refine ⟨b, x, _, 8 + 200, T', r', rfl, by omega, HS8.out.below HB9.out, HG7.out, HD7.out, by rw [HP7.out]; exact HNE.out, ?_, ?_⟩
  · rw [HP7.out]
    exact ((HROW.out.kp HK7.out).kp HK8.out).kp hk9
  · exact ((((((HB3.out.trans HK4.out.1).trans HK5.out.1).trans (HB6.out.mono HS5.out.size)).trans HK7.out.1).trans HK8.out.1).trans hk9.1)
end Go.Proofs.YtemondlgcmpbbaaGreatDoor

/- Walks: Abort, where something stands against it. -/
namespace Go.Proofs.YtemondlgcmpbbaaGreatDoor
open Go.RowKit

def opAbort : ByteArray := ⟨#[97, 98, 111, 114, 116]⟩
set_option maxRecDepth 100000 in
set_option maxHeartbeats 1000000 in
theorem abort_no (t x c : Nat) (τ : TxS) (s : DbS) (w : World) (hT : TxAt w t τ) (hD : DbAt w x s) (hx : τ.db = x) (hok : mayC s.poi τ.done false τ.write = c) (hc : c ≠ 0) :
    Calls Tryz.prog 27 #[.pointer (some ⟨t, 0, none⟩)] w fun e w' => ∃ f, e = .returned (faultV f) ∧ FaultAt w' f opAbort c ∧ w.heap.size ≤ f ∧ Below w.heap.size w w' := by
  have t0 : w.cell? ⟨t, 0, none⟩ = some (.pointer (some ⟨x, 0, none⟩)) := by rw [← hx]; exact cellOf hT 0 rfl
  have htx : t ≠ x := Blk.ne_ hT hD (by decide)
  have HL := hide (lock_at hD rfl)
  have HT := hide hT
  have HD := hide hD
  have HOK := hide hok
  have HC := hide hc
  clear hT hD hok hc
  go_enter_defers Tryz.func27, Tryz.ntmps27
  go_wp2_with (first
    | (go_at_call 51; refine HL.out.mono ?_; rintro e w1 ⟨rfl, hb1, ho1, hs1⟩
       have hT1 := HT.out.only ho1 htx
       have k0 : w1.cell? ⟨t, 0, none⟩ = some (.pointer (some ⟨x, 0, none⟩)) := by rw [← hx]; exact cellOf hT1 0 rfl
       have HM := hide (may0_any t x τ s 1 opAbort false w1 hT1 hb1 hx)
       rw [HOK.out] at HM
       unfold opAbort at HM
       have HB1 := hide hb1
       have HO1 := hide ho1
       clear hT1 hb1 ho1 hs1)
    | (go_at_call 54; refine HM.out.mono ?_; rintro e w2 ⟨v, rfl, hb2, ha⟩
       obtain ⟨f, rfl, hf, hlf⟩ : ∃ f, v = faultV f ∧ FaultAt w2 f ⟨#[97, 98, 111, 114, 116]⟩ c ∧ w1.heap.size ≤ f := by
         rcases ha with h | h
         · exact absurd h.1 HC.out
         · exact h.2
       unfold faultV
       have HF := hide hf
       have HLF := hide hlf
       have HB2 := hide hb2
       clear ha hf hlf hb2))
  refine leaves_cons (f := 52) (args := #[.pointer (some ⟨x, 0, none⟩)]) (by simp) (by simp [go_sem]) ?_
  have hD2 := HB1.out.below HB2.out HB1.out.lt
  have hne : f ≠ x := by have := HLF.out; have := HB1.out.lt; omega
  refine (unlock_at .returning hD2 rfl).mono ?_
  rintro e u' w4 ⟨rfl, rfl, hb4, ho4, hs4⟩
  refine ⟨_, results_tmp rfl _ _ _, f, rfl, Blk.only HF.out ho4 hne, Nat.le_trans HO1.out.size HLF.out, ?_⟩
  exact (((HO1.out).below HB2.out).trans ho4).back HD.out hb4
end Go.Proofs.YtemondlgcmpbbaaGreatDoor

/- Walks: shadowkeep.Aborted. -/
namespace Go.Proofs.YtemondlgcmpbbaaGreatDoor
open Go.RowKit

set_option maxRecDepth 100000 in
set_option maxHeartbeats 4000000 in
theorem aborted_any (a b : Int) (w : World) (ha : I64 a) (hb : I64 b) (hgl : Glob w) :
    Calls Tryz.prog 6 #[.int .i64 a, .int .i64 b] w fun e w' => e = .returned (.bool true) ∧ Below w.heap.size w w' := by
  have HBE := hide (begun_any 150 a w (by omega) ha)
  have HPK := hide (fun W => pickk_fn b 30 W hb (by omega) (by omega))
  have hpl := pickN_lt b 30 (by omega)
  obtain ⟨p, hp⟩ : ∃ p, p = pickN b 30 := ⟨_, rfl⟩
  rw [← hp] at HPK hpl
  have HPE := hide hp
  have hp1 : IntKind.i64.wrap (1 + (p : Int)) = ((1 + p : Nat) : Int) := by rw [IntKind.wrap_i64]; omega
  have HBI := hide hb
  have HPL := hide hpl
  have HGL := hide hgl
  clear hp hb hpl hgl ha
  go_enter Tryz.func6, Tryz.ntmps6
  go_wp2_with (first
    | (go_at_call 28; go_loud (
       refine HBE.out.mono ?_; rintro e w1 ⟨d, x, v1, K, T, r, rfl, hK, hs1, hg1, hd1, hne1, hrow1, hb1⟩
       have HW1 := hide (writes_any d _ _ _ w1 hs1.disk.at_)
       have HWR := hide (writing_any b (1 + p) HBI.out (by have := HPL.out; omega) hs1 hg1 (by decide))
       have HG1 := hide hg1
       have HR1 := hide hrow1
       have HB1 := hide hb1
       clear hK hs1 hg1 hd1 hne1 hrow1 hb1))
    | (go_at_call 25; go_loud (first
       | (refine HW7.out.mono ?_; rintro e w' ⟨rfl, rfl⟩)
       | (refine HW1.out.mono ?_; rintro e w' ⟨rfl, rfl⟩)))
    | (go_at_call 18; go_loud (refine (HPK.out _).mono ?_; rintro e w' ⟨rfl, rfl⟩))
    | (go_at_call 29; go_loud (
       refine HWR.out.mono ?_; rintro e w2 ⟨t, v2, T2, rp2, ds2, st2, rfl, hs2, ht2, hg2, -, hk2⟩
       have HAB := hide (sr_abort hs2 ht2)
       have HK2 := hide hk2
       clear hs2 ht2 hg2 hk2))
    | (go_at_call 27; go_loud (first
       | (refine HAN.out.mono ?_; rintro e w4 ⟨f, rfl, hf4, -, hb4⟩
          have HTD := hide (told_fault f 5 _ w4 hf4 (HGL3.out.below hb4))
          have HS4 := hide (HS3.out.below hb4)
          have HB4 := hide hb4
          clear hf4 hb4)
       | (refine HAB.out.mono ?_; rintro e w3 ⟨rfl, hs3, ht3, hk3⟩
          have HAN := hide (abort_no t x 5 _ _ w3 ht3 hs3.db rfl rfl (by decide))
          have HGL3 := hide (HGL.out.below ((HB1.out.trans HK2.out.1).trans hk3.1))
          have HS3 := hide hs3
          have HK3 := hide hk3
          clear hs3 ht3 hk3)))
    | (go_at_call 30; go_loud (
       refine HTD.out.mono ?_; rintro e w5 ⟨rfl, hb5⟩
       have hs5 := HS4.out.below hb5
       have HNW := hide (know_any hs5 (by decide) HG1.out.tr HG1.out.pairs HG1.out.key8)
       have HK5 := hide (KpP.of_below hb5 HS4.out.size)
       clear hs5 hb5))
    | (go_at_call 31; go_loud (
       refine HNW.out.mono ?_; rintro e w6 ⟨v6, rfl, hrow6, hs6, -, hk6⟩
       have HKA := hide ((((HK2.out.trans HK3.out).trans (KpP.of_below HB4.out HS3.out.size)).trans HK5.out).trans hk6)
       have HSM := hide (same_any v1 v6 T.pairs T.pairs w6 (HR1.out.kp HKA.out) hrow6 (by have := HG1.out.pairs; omega) (by have := HG1.out.pairs; omega))
       rw [show decide (T.pairs = T.pairs) = true by simp] at HSM
       have HS6 := hide hs6
       clear hrow6 hs6 hk6))
    | (go_at_call 33; go_loud (refine HSM.out.mono ?_; rintro e w9 ⟨rfl, hb9⟩; have HBG := hide (sr_begin (HS6.out.below hb9)); have HB9 := hide (hb9.mono HS6.out.size); clear hb9))
    | (go_at_call 22; go_loud (
       refine HBG.out.mono ?_; rintro e w7 ⟨u, rfl, hs7, -, hk7⟩
       have HW7 := hide (writes_any d _ _ _ w7 hs7.disk.at_)
       have HK7 := hide hk7
       clear hs7 hk7)))
  go_ret
  exact ⟨rfl, ((HB1.out.trans HKA.out.1).trans HB9.out).trans HK7.out.1⟩
end Go.Proofs.YtemondlgcmpbbaaGreatDoor

/- The law Aborted: lifted; its row. -/
namespace Go.Proofs.YtemondlgcmpbbaaGreatDoor
open Go.ChangeShapes Go.WideShapes Go.RowKit Go.Deep

set_option maxRecDepth 100000 in
theorem aborted_lifted (os : Os) (started : os.Started) (H : Type) (enc : TypeId × Value → H) :
    ReturnsInHanded {} Tryz.checked os 6 .any (fun w args => (Rows.abortedSpec.pre enc Tryz.prog Tryz.f6 [] false w args ∧ laidMetH Tryz.prog tLaid w) ∧ sizedMet enc Tryz.prog Tryz.f6 (OpenSpec.ofChange Rows.abortedSpec) false w args)
      (Rows.abortedSpec.post enc Tryz.prog Tryz.f6 false true false false) := by
  refine returnsInHanded_of_change_and (C := Tryz.checked) (X := fun w _ => laidMetH Tryz.prog tLaid w) (fun _ _ _ hh h => h.of_heap hh) tOwn started (by kernel_rfl) Tryz.func6
    (ChangeSpec.witness_at (enc := enc) (C := Tryz.checked) (os := os) (X := fun w _ => laidMetH Tryz.prog tLaid w) false (laidWorld os) #[.int .i64 0, .int .i64 0] 8 rfl (by kernel_rfl) (by kernel_rfl) (by kernel_rfl) (by kernel_rfl) (by kernel_rfl) (laidWorld_met os _)) ?_
  intro W base args ds gs before hval0 hW _ _ hL _
  have hW' := hW
  obtain ⟨p, q, hA0, hV, rfl, _, _⟩ := hW
  have hA : DataW.TrodAll enc Tryz.prog W 0 (fun _ => true) true Tryz.f6.params.toList args.toList ds p := hA0
  rw [Tryz.params6] at hA
  obtain ⟨v0, v1, d0, d1, p0, p1, rfl, rfl, rfl, h0, h1⟩ := trodAll_two hA
  obtain ⟨rfl, rfl⟩ := trodVars_none hV
  have hval : ∀ (j : Nat) t v, Tryz.f6.params[j]? = some t → #[v0, v1][j]? = some v → Value.okWide Tryz.prog W .any base t v := hval0
  obtain ⟨n0, rfl, rfl, rfl, wf0⟩ := open_int Tryz.underlying3 (hval 0 3 v0 (by rw [Tryz.params6]; rfl) rfl) h0
  obtain ⟨n1, rfl, rfl, rfl, wf1⟩ := open_int Tryz.underlying3 (hval 1 3 v1 (by rw [Tryz.params6]; rfl) rfl) h1
  clear hA0 hval0 hval
  simp only [List.append_nil] at hW'
  refine (aborted_any n0 n1 W (I64_of_wf wf0) (I64_of_wf wf1) (glob_of_laid hL)).mono fun e W' ⟨he, hnx⟩ => ?_
  subst he
  refine ⟨_, rfl, _, _, _, [], [], [], hW', ?_, ?_, rfl, hnx.frame _, fun h => by cases h⟩
  · exact trodAll_mk1 (shut_bool Tryz.underlying4 true)
  · exact trodAll_mk2 (shut_int Tryz.underlying3 wf0) (shut_int Tryz.underlying3 wf1)

theorem aborted_q1 : laidOutB Tryz.pinned.checked.prog = true ∧ mapsRowed Tryz.pinned.checked.prog = true := ⟨by kernel_rfl, by kernel_rfl⟩
theorem aborted_q2 : (Rows.abortedRow.inPlace == Tryz.pinned.checked.prog.inPlace 6) = true ∧ (Rows.abortedRow.unfollowed == Tryz.pinned.checked.prog.unfollowed 6) = true ∧ (Rows.abortedRow.recurses == Tryz.pinned.checked.prog.recurses 6) = true ∧ (Rows.abortedRow.named == Tryz.pinned.checked.prog.varsNamed 6) = true :=
  ⟨by kernel_rfl, by kernel_rfl, by kernel_rfl, by kernel_rfl⟩
theorem aborted_q3 : Tryz.pinned.checked.prog.mayEnter = true := by kernel_rfl
theorem aborted_q4 : (Rows.abortedRow.lifted == Tryz.pinned.checked.prog.liftsFinal) = true := by kernel_rfl
theorem aborted_q5 : (Tryz.pinned.checked.prog.make == some Rows.abortedRow.make) = true := by kernel_rfl
theorem aborted_q6 : joinedFacts Tryz.pinned.checked.prog 6 Tryz.f6 Rows.abortedSpec Rows.abortedRow = true := by
  have am : ∀ {a b : Bool}, a = true → b = true → (a && b) = true := fun h k => by rw [h, k]; rfl
  unfold joinedFacts
  repeat' with_reducible apply am
  all_goals first | with_reducible exact aborted_q1.1 | with_reducible exact aborted_q1.2 | with_reducible exact aborted_q2.1 | with_reducible exact aborted_q2.2.1 | with_reducible exact aborted_q2.2.2.1 | with_reducible exact aborted_q2.2.2.2 | with_reducible exact aborted_q3 | with_reducible exact aborted_q4 | with_reducible exact aborted_q5 | kernel_rfl
theorem aborted_holds : Rows.AbortedSaid :=
  OpenClaim.holds_of_wide 6 Tryz.f6 rfl rfl rfl rfl rfl rfl rfl ⟨rfl, rfl, rfl, rfl, rfl⟩ rfl rfl rfl rfl rfl (by kernel_rfl) Tryz.func6 aborted_q6
    (of_decide_eq_true (by kernel_rfl)) (by unfold Func.isWrapper; rw [if_neg (of_decide_eq_false (by kernel_rfl))]; exact ⟨rfl, rfl⟩)
    (fun os started H enc _ => aborted_lifted os started H enc)
end Go.Proofs.YtemondlgcmpbbaaGreatDoor
