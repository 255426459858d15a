/- Sq Fl Bb Tn Tr: merged. -/
import Derived.Test.YtemondlgcmpbbaaGreatDoorMH30
import Derived.Laws.StructEq
import Derived.RegionTactic
import Derived.BigRegion
import Derived.Test.YtemondlgcmpbbaaGreatDoorMH29
import Derived.Test.YtemondlgcmpbbaaGreatDoorMH06
import Derived.Test.YtemondlgcmpbbaaGreatDoorMH31
import Derived.OwnWalk
import Derived.Test.YtemondlgcmpbbaaGreatDoorMH28
import Derived.Maps.AppendAt
/- Walks: shadowkeep's same. -/
namespace Go.Proofs.YtemondlgcmpbbaaGreatDoor
open Go.RowKit

def eqP (a b : Str × Str) : Bool := seq a.1 b.1 && seq a.2 b.2
theorem eqP_iff (a b : Str × Str) : eqP a b = true ↔ a = b := by
  unfold eqP
  rw [Bool.and_eq_true]
  refine ⟨fun ⟨h1, h2⟩ => Prod.ext (seq_iff.1 h1) (seq_iff.1 h2), fun h => by subst h; exact ⟨seq_self _, seq_self _⟩⟩
theorem pairCells_at : ∀ (l : List (Str × Str)) (k : Nat) (h : k < l.length), (pairCells l)[k * 2]? = some (.string l[k].1) ∧ (pairCells l)[k * 2 + 1]? = some (.string l[k].2)
  | a :: l, 0, _ => ⟨rfl, rfl⟩
  | a :: l, k + 1, h => by
    have := pairCells_at l k (by simpa using h)
    have e : pairCells (a :: l) = Value.string a.1 :: Value.string a.2 :: pairCells l := rfl
    rw [e, show (k + 1) * 2 = k * 2 + 1 + 1 by omega]
    exact this
theorem PRow.cells {w : World} {v : Value} {l : List (Str × Str)} (h : PRow w v l) : (v = .slice none 0 0 ∧ l = []) ∨ ∃ g c, v = .slice (some ⟨g, 0, none⟩) l.length c ∧ l.length ≤ c ∧ c ≤ maxLen ∧ ∀ k (hk : k < l.length), w.cell? ⟨g, k * 2, none⟩ = some (.string l[k].1) ∧ w.cell? ⟨g, k * 2 + 1, none⟩ = some (.string l[k].2) := by
  obtain ⟨base, h1, h2⟩ := h
  rcases h2 with ⟨h0, h3⟩ | ⟨g, cap, cur, hv, _, hg, a1, a2, a3, a4⟩
  · exact .inl ⟨h0, List.length_eq_zero_iff.1 h3⟩
  · refine .inr ⟨g, cap, hv, a1, a2, fun k hk => ?_⟩
    have hb : Blk w g 68 cur := hg
    have hc := pairCells_at l k hk
    rw [← a4] at hc
    rw [List.getElem?_take_of_lt (by omega), List.getElem?_take_of_lt (by omega)] at hc
    exact ⟨cellOf hb _ (by simpa using hc.1), cellOf hb _ (by simpa using hc.2)⟩

set_option maxRecDepth 100000 in
set_option maxHeartbeats 1000000 in
theorem same_any (va vb : Value) (la lb : List (Str × Str)) (w : World) (ha : PRow w va la) (hb : PRow w vb lb) (h1 : la.length ≤ 1000) (h2 : lb.length ≤ 1000) :
    Calls Tryz.prog 33 #[va, vb] w fun e w' => e = .returned (.bool (decide (la = lb))) ∧ Below w.heap.size w w' := by
  have hva : ∃ A c, va = .slice A la.length c := ha.form
  have hvb : ∃ A c, vb = .slice A lb.length c := hb.form
  have hca := ha.cells
  have hcb := hb.cells
  obtain ⟨A, ca, rfl⟩ := hva
  obtain ⟨B, cb, rfl⟩ := hvb
  clear ha hb
  by_cases hl : la.length = lb.length
  · obtain ⟨n, hn⟩ : ∃ n, n = la.length := ⟨_, rfl⟩
    rw [← hl]
    rw [← hn] at h1 ⊢
    have HN := hide hn
    have HL := hide hl
    have HA := hide (fun k (hk : k < n) (hk' : k < la.length) => (show ∃ g, A = some ⟨g, 0, none⟩ ∧ n ≤ ca ∧ w.cell? ⟨g, k * 2, none⟩ = some (.string la[k].1) ∧ w.cell? ⟨g, k * 2 + 1, none⟩ = some (.string la[k].2) by
      rcases hca with ⟨_, rfl⟩ | ⟨g, c, e, e1, _, e3⟩
      · simp at hn; omega
      · injection e with x y z
        subst z
        exact ⟨g, x, by omega, e3 k (by omega)⟩))
    have HB := hide (fun k (hk : k < n) (hk' : k < lb.length) => (show ∃ g, B = some ⟨g, 0, none⟩ ∧ n ≤ cb ∧ w.cell? ⟨g, k * 2, none⟩ = some (.string lb[k].1) ∧ w.cell? ⟨g, k * 2 + 1, none⟩ = some (.string lb[k].2) by
      rcases hcb with ⟨_, rfl⟩ | ⟨g, c, e, e1, _, e3⟩
      · simp at hl; subst hl; simp at hn; omega
      · injection e with x y z
        subst z
        exact ⟨g, x, by omega, e3 k (by omega)⟩))
    have hee : ((n : Int) != (n : Int)) = false := by simp
    clear hca hcb hn hl h2
    go_enter Tryz.func33, Tryz.ntmps33
    go_wp2
    go_loopw [5] (fun i wr => ∃ k : Nat, k ≤ n ∧ la.take k = lb.take k ∧ i = .int .i64 k ∧ Below w.heap.size w wr) (fun i _ => n - (intOf i).toNat)
    case atStart => exact ⟨0, Nat.zero_le _, by simp, rfl, Below.refl _ _⟩
    case round =>
      obtain ⟨k, hk, ht, rfl, hbw⟩ := hrel
      have HT := hide ht
      clear ht
      by_cases hlt : k < n
      · have m0 : (0 : Int) ≤ (k : Int) := by omega
        have m1 : (k : Int) < (n : Int) := by omega
        have hka : k < la.length := by have := HN.out; omega
        have hkb : k < lb.length := by have := HN.out; have := HL.out; omega
        obtain ⟨ga, rfl, hc1, a1, a2⟩ := HA.out k hlt hka
        obtain ⟨gb, rfl, hc2, b1, b2⟩ := HB.out k hlt hkb
        replace a1 := below_cell a1 hbw
        replace a2 := below_cell a2 hbw
        replace b1 := below_cell b1 hbw
        replace b2 := below_cell b2 hbw
        obtain ⟨pa, hpa⟩ : ∃ pa, pa = la[k] := ⟨_, rfl⟩
        obtain ⟨pb, hpb⟩ : ∃ pb, pb = lb[k] := ⟨_, rfl⟩
        rw [← hpa] at a1 a2
        rw [← hpb] at b1 b2
        have HPA := hide hpa
        have HPB := hide hpb
        have HBW := hide hbw
        clear hpa hpb hbw
        have hno : ¬ pa = pb → decide (la = lb) = false := fun h => by
          simp only [decide_eq_false_iff_not]
          intro e
          apply h
          rw [HPA.out, HPB.out]
          subst e
          rfl
        have HNO := hide hno
        clear hno
        by_cases h1' : pa.1.toList = pb.1.toList
        · by_cases h2' : pa.2.toList = pb.2.toList
          · go_wp2
            go_region
            go_wp2
            have hpp : pa = pb := (eqP_iff pa pb).1 (by unfold eqP seq; simp [h1', h2'])
            go_roundw
            case rel => exact ⟨k + 1, by omega, by rw [take_snoc hka, take_snoc hkb, HT.out, ← HPA.out, ← HPB.out, hpp], by go_num, HBW.out.drew⟩
            case measure => simp [intOf]; omega
          · go_wp2
            go_region
            go_wp2
            go_ret
            exact ⟨by rw [HNO.out (fun e => h2' (by rw [e]))]; rfl, HBW.out.drew⟩
        · go_wp2
          go_region
          go_wp2
          go_ret
          exact ⟨by rw [HNO.out (fun e => h1' (by rw [e]))]; rfl, HBW.out.drew⟩
      · have m1 : ¬ (k : Int) < (n : Int) := by omega
        have HBW := hide hbw
        clear hbw
        go_wp2
        go_ret
        refine ⟨?_, HBW.out⟩
        have hkn : k = n := by omega
        have e := HT.out
        rw [hkn, List.take_of_length_le (Nat.le_of_eq HN.out.symm), List.take_of_length_le (Nat.le_of_eq (HL.out.symm.trans HN.out.symm))] at e
        rw [show decide (la = lb) = true by simpa using e]
        rfl
  · have hne : ¬ (la.length : Int) = (lb.length : Int) := by omega
    have hneb : ((la.length : Int) != (lb.length : Int)) = true := by simpa using hne
    have hdec : decide (la = lb) = false := by simp; intro e; exact hl (by rw [e])
    have HD := hide hdec
    clear hca hcb hdec hl
    go_enter Tryz.func33, Tryz.ntmps33
    go_wp2
    go_ret
    exact ⟨by rw [HD.out]; rfl, Below.refl _ _⟩
end Go.Proofs.YtemondlgcmpbbaaGreatDoor

/- Walks: shadowkeep's filled. -/
namespace Go.Proofs.YtemondlgcmpbbaaGreatDoor
open Go.RowKit

def VK (k : Nat) : Str → Prop := fun s => s ∈ (List.range k).map wideK ∨ s = noKey
theorem VK.more {k k' : Nat} (hk : k ≤ k') : ∀ s, VK k s → VK k' s := fun s h => by
  rcases h with h | h
  · obtain ⟨i, hi, rfl⟩ := List.mem_map.1 h
    exact .inl (List.mem_map.2 ⟨i, List.mem_range.2 (by have := List.mem_range.1 hi; omega), rfl⟩)
  · exact .inr h
theorem VK.wide {k i : Nat} (h : i < k) : VK k (wideK i) := .inl (List.mem_map.2 ⟨i, List.mem_range.2 h, rfl⟩)
theorem Good.mono {V V' : Str → Prop} {t : Tree} (h : Good V t) (hV : ∀ s, V s → V' s) : Good V' t := ⟨h.tr, h.tf, h.tk.mono hV, h.sm, h.few⟩
theorem VK.keys {k : Nat} {t : Tree} (hw : TW t) (h : TK (VK k) t) : t.keys ≤ k := by
  have := keys_le (L := (List.range k).map wideK) hw h
  simpa using this
theorem Good.dirty_le {V : Str → Prop} {t : Tree} (h : Good V t) : tdirty t ≤ 133 := by
  have h1 := h.tf.nodes_le h.tr.tw h.few
  have h2 := t.cblks_len
  have := h.few
  omega

def sVal12 : Str := ⟨#[48, 49, 50, 51, 52, 53, 54, 55, 56, 57, 97, 98]⟩
end Go.Proofs.YtemondlgcmpbbaaGreatDoor

/- Walks: shadowkeep's begun. -/
namespace Go.Proofs.YtemondlgcmpbbaaGreatDoor
open Go.RowKit

set_option maxRecDepth 100000 in
set_option maxHeartbeats 4000000 in
theorem begun_any (n : Nat) (a : Int) (w : World) (hn : 100 ≤ n ∧ n ≤ 400) (ha : I64 a) :
    Calls Tryz.prog 28 #[.int .i64 n, .int .i64 a] w fun e w' => ∃ b x v K T r, e = .returned (.tuple #[.pointer (some ⟨b, 0, none⟩), .pointer (some ⟨x, 0, none⟩), v]) ∧ K ≤ 300 ∧ StoreR w.heap.size w' K b n x 2 (.pointer none) T r [] ∧ Good V21 T ∧ tdirty T = 0 ∧ HasF T ∧ PRow w' v T.pairs ∧ Below w.heap.size w w' := by
  have hB : 8 ≤ n ∧ n ≤ 400 := by omega
  have hroom : (22 : Int) ≤ roomN n := by unfold roomN; rw [Int.tdiv_eq_ediv_of_nonneg (by omega)]; omega
  have hbn : blocksN n = n := by unfold blocksN; rw [if_neg (by omega)]; omega
  have HN := hide (newDisk_any n w.heap.size w (Nat.le_refl _))
  rw [hbn] at HN
  have hf : fitsN n = true := (fitsN_iff n).2 hB
  have HPK := hide (fun W => pickk_fn a 40 W ha (by omega) (by omega))
  have hpl := pickN_lt a 40 (by omega)
  obtain ⟨p, hp⟩ : ∃ p, p = pickN a 40 := ⟨_, rfl⟩
  rw [← hp] at HPK hpl
  have HPE := hide hp
  have hp3 : IntKind.i64.wrap (3 + (p : Int)) = ((3 + p : Nat) : Int) := by rw [IntKind.wrap_i64]; omega
  have HHB := hide hB
  have HHN := hide hn
  have HRM := hide hroom
  have HFT := hide hf
  have HA := hide ha
  have HPL := hide hpl
  clear hbn hB hn hroom hf hp ha hpl
  go_enter Tryz.func28, Tryz.ntmps28
  go_wp2_with (first
    | (go_at_call 49; go_loud (
       refine HN.out.mono ?_; rintro e w1 ⟨b, g, rfl, hd1, hb1, hg1, hB1⟩
       have HF := hide (sformat_any _ _ _ _ _ _ _ _ _ _ hd1 Nums.new_calm (by decide) HFT.out)
       have HD1 := hide hd1
       have HB1 := hide hB1
       have HBG := hide (And.intro hb1 hg1)
       clear hd1 hb1 hg1 hB1))
    | (go_at_call 50; go_loud (
       refine HF.out.mono ?_; rintro e w2 ⟨rfl, hd2, ho2⟩
       obtain ⟨hdd, tl, hh, hz0, hHz⟩ := format_heads (bytes := List.replicate (n * 128) 0) (n := n) (G := 0) (by simp) HHB.out.1 (Hz_zero _ _) (by decide)
       have HO := hide (sopen_zero _ _ _ _ _ _ _ _ _ _ hd2 (((ticks_calm Nums.new_calm 2).tick.wrote).tick) (by decide) HFT.out hdd tl hh hz0)
       have HHD := hide (show hdd.slot < 2 ∧ hdd.gen ≤ 1 from ⟨(headUp_slot _ 2 hdd (headsN_mem _ hdd (by rw [hh]; simp))).1, (hHz.heads hdd (by rw [hh]; simp)).2⟩)
       have HC2 := hide (((ticks_calm Nums.new_calm 2).tick.wrote).tick)
       have HO2 := hide ho2
       clear hd2 ho2 hh hHz))
    | (go_at_call 38; go_loud (
       refine HO.out.mono ?_; rintro e w3 ⟨x, dk, rd, rfl, hdb, hrd, hdk, hx, hdkl, hrdl, hd3, ho3⟩
       have hs1 := HB1.out.size
       have hs2 := HO2.out.size
       have hw2 : w.heap.size ≤ w2.heap.size := Nat.le_trans hs1 hs2
       obtain ⟨m3, hm3, bytes3, hd3⟩ : ∃ m3 : Nums, m3.calm ∧ ∃ bytes3, Dk w3 (0 + 5 + 3) b g w.heap.size n (.slice none 0 0) m3 bytes3 [] := ⟨_, ticks_calm HC2.out 3, _, hd3⟩
       have hst : StoreR w.heap.size w3 8 b n x 1 (.pointer none) ⟨none, 0⟩ ⟨g, w.heap.size, m3, bytes3, dk, rd, hdd, .pointer none⟩ [] := Store.toR ⟨hd3, hm3, hdk, HHD.out.1, HHD.out.2, hdb, hrd, .inl ⟨rfl, rfl, rfl⟩, HBG.out.1, HBG.out.2, Nat.le_trans hw2 hdkl, Nat.le_trans hw2 hx, Nat.le_trans hw2 hrdl⟩
       have HWR := hide (writing_any a (3 + p) HA.out (by have := HPL.out; omega) hst Good.empty HRM.out)
       have HB3 := hide (show Below w.heap.size w w3 from (HB1.out.trans ((HO2.out.trans ho3).to_below hs1 (fun y e => by rcases e with rfl | rfl; exact HBG.out.1; exact HBG.out.2))))
       clear hst hdb hrd hdk hx hdkl hrdl hd3 ho3 hs1 hs2 hm3 hw2))
    | (go_at_call 18; go_loud (refine (HPK.out _).mono ?_; rintro e w' ⟨rfl, rfl⟩))
    | (go_at_call 29; go_loud (
       refine HWR.out.mono ?_; rintro e w4 ⟨t, v4, T2, rp2, ds2, st2, rfl, hs4, ht4, hg4, -, hk4⟩
       have HP4 := hide (sr_put sFirst sOfAll hs4 ht4 hg4.tr hg4.pairs sFirst_ok sOfAll_ok (by have := HPL.out; omega) (.inr (by have := hg4.keys21; have := HRM.out; omega)))
       unfold sFirst sOfAll at HP4
       have HG4 := hide hg4
       have HK4 := hide hk4
       clear hs4 ht4 hg4 hk4))
    | (go_at_call 24; go_loud (
       refine HP4.out.mono ?_; rintro e w5 ⟨rfl, hs5, ⟨rp5, ds5, ht5⟩, hk5⟩
       obtain ⟨T5, ht5, hg5, hne5⟩ : ∃ T5, Trans w.heap.size w5 t x (3 + p + 1) T5 rp5 ds5 (st2 + 1) ∧ Good V21 T5 ∧ HasF T5 := ⟨_, ht5, (HG4.out.put21 V21.first sFirst_ok sOfAll_ok).1, HasF.first HG4.out.tr.tw sOfAll_ok⟩
       have HAL := hide (kall_any t x _ _ T5 ds5 w5 ht5.tx hs5.db rfl rfl rfl ht5.tree hg5.tr hg5.pairs hg5.key8)
       have HS5 := hide hs5
       have HT5 := hide ht5
       have HG5 := hide hg5
       have HK5 := hide hk5
       have HNE := hide hne5
       clear hs5 ht5 hg5 hk5 hne5))
    | (go_at_call 32; go_loud (
       refine HAL.out.mono ?_; rintro e w6 ⟨v6, rfl, hrow, hb6⟩
       obtain ⟨A6, c6, rfl⟩ := hrow.form
       have hl0 : ¬ (T5.pairs.length : Int) = 0 := by have := HNE.out.ne; have := mt List.length_eq_zero_iff.1 this; omega
       have hl1 : ((T5.pairs.length : Int) == 0) = false := by simpa using hl0
       have HC := hide (sr_commit (HS5.out.below hb6) (HT5.out.below hb6) HG5.out (Good.empty (V := V21)) HHB.out (by decide) (by decide) (by have := HG5.out.keys21; have := HHN.out.1; show T5.keys + 0 + 10 ≤ n; omega) (by have := HG5.out.dirty_le; omega))
       have HROW := hide hrow
       have HB6 := hide hb6
       clear hrow hb6))
    | (go_at_call 26; go_loud (
       refine HC.out.mono ?_; rintro e w7 ⟨rfl, ⟨T', r', hs7, hg7, hd7, hp7, -, -⟩, hk7⟩
       have HNW := hide (know_any hs7 (by decide) hg7.tr hg7.pairs hg7.key8)
       have HG7 := hide hg7
       have HD7 := hide hd7
       have HP7 := hide hp7
       have HK7 := hide hk7
       clear hs7 hg7 hd7 hp7 hk7))
    | (go_at_call 31; go_loud (
       refine HNW.out.mono ?_; rintro e w8 ⟨v8, rfl, hrow8, hs8, -, hk8⟩
       have HSM := hide (same_any _ v8 T5.pairs T'.pairs w8 ((HROW.out.kp HK7.out).kp hk8) hrow8 (by have := HG5.out.pairs; omega) (by have := HG7.out.pairs; omega))
       rw [show decide (T5.pairs = T'.pairs) = true by simp [HP7.out]] at HSM
       have HS8 := hide hs8
       have HK8 := hide hk8
       clear hrow8 hs8 hk8))
    | (go_at_call 33; go_loud (refine HSM.out.mono ?_; rintro e w9 ⟨rfl, hb9⟩; have HB9 := hide hb9; clear hb9)))
  refine bodyPost_ret (results_tmp3 rfl _ _ _) rfl ?_
  have hk9 : KpP w.heap.size w8 w9 := KpP.of_below HB9.out HS8.out.size
  refine ⟨b, x, _, 8 + 200, T', r', rfl, by omega, HS8.out.below HB9.out, HG7.out, HD7.out, HNE.out.same HP7.out, ?_, ?_⟩
  · rw [HP7.out]
    exact ((HROW.out.kp HK7.out).kp HK8.out).kp hk9
  · exact ((((((HB3.out.trans HK4.out.1).trans HK5.out.1).trans (HB6.out.mono HS5.out.size)).trans HK7.out.1).trans HK8.out.1).trans hk9.1)
end Go.Proofs.YtemondlgcmpbbaaGreatDoor

/- Walks: Txn.Commit of a transaction that writes, where one reads and the device tells no error. -/
namespace Go.Proofs.YtemondlgcmpbbaaGreatDoor
open Go.RowKit

section
variable {P : Program}
theorem next_end (W : World) (ty : TypeId) (it rd since c0 clk : Nat) (seen : Array Nat) (es : Array MapEntry) (hi : W.heap[it]? = some (.mapIter (some rd) since seen c0)) (hb : W.heap[rd]? = some (.map es clk)) (hold : ∀ x ∈ es.toList, x.born < since) (hsc : since ≤ c0) (hleft : Array.filter (fun e => !seen.contains e.born) es = #[]) :
    (Instr.next (.pointer (some ⟨it, 0, none⟩)) false ty).run P W = .ok (.tuple #[.bool false]) W := by
  simp only [Instr.next, getObj, Sem.run_bind, Sem.run, hi, hb, Result.andThen, next_test_false seen es since c0 hold hsc, Bool.false_eq_true, if_false, hleft]
  simp [choose, Sem.run, Question.forced]
theorem next_one (w : World) (ty : TypeId) (bm since : Nat) (e : MapEntry) (hb : w.heap[bm]? = some (.map #[e] since)) (hold : e.born < since) :
    (Instr.next (.pointer (some ⟨w.heap.size, 0, none⟩)) false ty).run P (w.alloc (.mapIter (some bm) since #[] since)) = .ok (.tuple #[.bool true, e.key, e.val]) (w.alloc (.mapIter (some bm) since #[e.born] since)) := by
  have hlt : bm < w.heap.size := (Array.getElem?_eq_some_iff.1 hb).1
  have hb' : (w.alloc (.mapIter (some bm) since #[] since)).heap[bm]? = some (.map #[e] since) := by rw [heap_alloc_old w _ hlt, hb]
  have hh : ∀ x ∈ (#[e] : Array MapEntry).toList, x.born < since := fun x hx => by
    have : x = e := by simpa using hx
    subst this
    exact hold
  simp only [Instr.next, getObj, Sem.run_bind, Sem.run, heap_alloc_new, hb', Result.andThen, next_test_false #[] #[e] since since hh (Nat.le_refl _), Bool.false_eq_true, if_false]
  have e0 : Array.filter (fun e => !(#[] : Array Nat).contains e.born) #[e] = #[e] := by simp
  have e1 : (#[e] : Array MapEntry).filter (fun x => decide (x.born < since)) = #[e] := by simp [hold]
  have e2 : (#[e] : Array MapEntry).filter (fun x => decide (x.born ≥ since)) = #[] := by simp; omega
  simp only [e0, e1, e2, Array.append_empty]
  have hp : ∀ (h : Array Obj) (x y : Obj), (h.push x).setIfInBounds h.size y = h.push y := by
    intro h x y
    apply Array.toList_inj.1
    simp
  have hset : ∀ (a : Option Nat) (b : Nat) (c : Array Nat) (d : Nat) (o' : Obj), (setObj w.heap.size o').run P (w.alloc (.mapIter a b c d)) = .ok () (w.alloc o') := fun a b c d o' => by
    simp only [setObj, Sem.run]
    rw [heap_alloc_new]
    show Result.ok () ({ w.alloc (.mapIter a b c d) with heap := (w.heap.push (.mapIter a b c d)).setIfInBounds w.heap.size o' } : World) = _
    rw [hp]
    rfl
  have hf : (Question.mapNext 1).forced = true := by simp [Question.forced]
  have hs := hset (some bm) since #[] since (.mapIter (some bm) since #[e.born] since)
  simp only [choose, Sem.run]
  simp
  rw [if_pos hf]
  show ((do setObj w.heap.size (.mapIter (some bm) since #[e.born] since); pure (Value.tuple #[.bool true, e.key, e.val])) : Sem Value).run P _ = _
  rw [Sem.run_bind, hs]
  rfl
end

theorem info_tree : (Tryz.prog.info? 88).map (fun i => (i.zero, i.size, i.bytes)) = some (some (.agg #[.pointer none, .int .i64 0]), 2, 16) := by kernel_rfl
structure CPostR (w : World) (K b g base n : Nat) (cv : Value) (m : Nums) (bytes : List UInt8) (cache : List (Nat × List UInt8)) (hd : Hd) (T : Tree) (rp : Value) (ds : List Nat) (T0 : Tree) (s : DbS) (t x : Nat) (stamp : Int) (ρ : Rdr) (w' : World) : Prop where
  db : DbAt w' x ⟨s.dk, rp, T.keys, .pointer none, s.rd, false⟩
  rd : RdAt w' s.rd [ρ.t]
  rdr : TxAt w' ρ.t ⟨x, ρ.rp, ρ.T.keys, false, false, 0⟩
  rtree : TreeV (fun z => z < w'.heap.size) w' ρ.T ρ.rp []
  tx : TxAt w' t ⟨x, rp, T.keys, true, true, stamp⟩
  disk : Dk w' (K + ds.length + 3) b g base n (.slice none 0 0) (wrotes m ds.length).tick.wrote.tick (dset (dflush bytes (cache ++ wlist (T.lay (hd.gen + 1) true (comXs [(T0, s.root, []), (ρ.T, ρ.rp, [])] T n ds.length)))) (1 - hd.slot, pad 128 (headB (hd.gen + 1) (T.lay (hd.gen + 1) true (comXs [(T0, s.root, []), (ρ.T, ρ.rp, [])] T n ds.length)).rblk (T.lay (hd.gen + 1) true (comXs [(T0, s.root, []), (ρ.T, ρ.rp, [])] T n ds.length)).rgen))) []
  dkb : Blk w' s.dk 151 (#[dev b] ++ headV (1 - hd.slot) (hd.gen + 1) (T.lay (hd.gen + 1) true (comXs [(T0, s.root, []), (ρ.T, ρ.rp, [])] T n ds.length)).rblk (T.lay (hd.gen + 1) true (comXs [(T0, s.root, []), (ρ.T, ρ.rp, [])] T n ds.length)).rgen)
  tree : TreeV (fun z => z < w'.heap.size) w' (T.lay (hd.gen + 1) false (comXs [(T0, s.root, []), (ρ.T, ρ.rp, [])] T n ds.length)) rp []
  only : Only (fun y => (dfp b g cv y ∨ y = s.dk ∨ y ∈ ds) ∨ y = t ∨ y = x ∨ y = s.rd) w w'

set_option maxRecDepth 100000 in
set_option maxHeartbeats 3200000 in
theorem xcommitR_ok (t x : Nat) (rp : Value) (T : Tree) (ds : List Nat) (stamp : Int) (s : DbS) (T0 : Tree) (K b g base n : Nat) (cv : Value) (m : Nums) (bytes : List UInt8) (cache : List (Nat × List UInt8)) (hd : Hd) (w : World) (hT : TxAt w t ⟨x, rp, T.keys, true, false, stamp⟩) (hD : DbAt w x s) (hpoi : s.poi = false) (ρ : Rdr) (hρ : TxAt w ρ.t ⟨x, ρ.rp, ρ.T.keys, false, false, 0⟩) (hρt : TreeV (fun z => z < w.heap.size) w ρ.T ρ.rp []) (hr : RdAt w s.rd [ρ.t]) (hk0 : s.keys = T0.keys)
    (h : CPre w K b g base n cv m bytes cache s.dk hd T rp ds T0 s.root) (hroom : ds.length ≤ (fr (usedL [(T0, s.root, []), (ρ.T, ρ.rp, [])] T) n 2).length) :
    Calls Tryz.prog 26 #[.pointer (some ⟨t, 0, none⟩)] w fun e w' => e = .returned .nilIface ∧ CPostR w K b g base n cv m bytes cache hd T rp ds T0 s t x stamp ρ w' := by
  obtain ⟨q, hq⟩ := h.tree.ptr
  obtain ⟨q0, hq0⟩ := h.old.ptr
  obtain ⟨q1, hq1⟩ := hρt.ptr
  have hρne : ρ.t ≠ t := rdr_ne hρ hT rfl
  have hρx : ρ.t ≠ x := Blk.ne_ hρ hD (by decide)
  have htxb : ∀ k ∈ [ρ.t], TxB w k := fun k hk => by rw [List.mem_singleton.1 hk]; exact ⟨_, hρ⟩
  have t0 : w.cell? ⟨t, 0, none⟩ = some (.pointer (some ⟨x, 0, none⟩)) := cellOf hT 0 rfl
  have htx : t ≠ x := Blk.ne_ hT hD (by decide)
  have hrt : s.rd ≠ t := hr.ne_blk hT
  have hrx : s.rd ≠ x := hr.ne_blk hD
  have HL := hide (lock_at hD rfl)
  have HT := hide hT
  have HR := hide hr
  have HD := hide hD
  have H0 := hide h
  have HPOI := hide hpoi
  have HQ := hide hq
  have HQ0 := hide hq0
  have HK0 := hide hk0
  have HQ1 := hide hq1
  have HRHO := hide hρ
  have HRT := hide hρt
  have HROOM := hide hroom
  have HTXB := hide htxb
  clear hT hD hr h hpoi hq hq0 hk0 hq1 hρ hρt hroom htxb
  go_enter_defers Tryz.func26, Tryz.ntmps26
  go_upto_region 10 with (first
    | (go_at_call 51; go_loud (
       refine HL.out.mono ?_; rintro e w1 ⟨rfl, hb1, ho1, hs1⟩
       have hT1 := HT.out.only ho1 htx
       have k0 : w1.cell? ⟨t, 0, none⟩ = some (.pointer (some ⟨x, 0, none⟩)) := cellOf hT1 0 rfl
       have HM := hide (may0_any t x _ s 1 ⟨#[99, 111, 109, 109, 105, 116]⟩ false w1 hT1 hb1 rfl)
       have HE := hide (end_any t x _ s 1 [ρ.t] w1 hT1 hb1 rfl (HR.out.only ho1 hrx) (fun k hk => by rw [List.mem_singleton.1 hk]; exact ⟨_, HRHO.out.only ho1 hρx⟩))
       rw [show mayC s.poi false false true = 0 by rw [HPOI.out]; rfl] at HM
       have HO1 := hide ho1
       clear hT1 hb1 ho1 hs1))
    | (go_at_call 54; go_loud (
       refine HM.out.mono ?_; rintro e w' ⟨v, rfl, ha⟩
       obtain ⟨rfl, rfl⟩ : v = .nilIface ∧ w1 = w' := by
         rcases ha.2 with h | h
         · exact ⟨h.2.1, h.2.2⟩
         · exact absurd rfl h.1
       clear ha))
    | (go_at_call 59; go_loud (
       refine HE.out.mono ?_; rintro e w2 ⟨rfl, hT2, hD2, hR2, ho2⟩
       rw [show ([ρ.t] : List Nat).erase t = [ρ.t] from List.erase_of_not_mem (by simp; exact fun e => hρne e.symm)] at hR2
       have m0 : w2.cell? ⟨t, 0, none⟩ = some (.pointer (some ⟨x, 0, none⟩)) := cellOf hT2 0 rfl
       have m3 : w2.cell? ⟨t, 3, none⟩ = some (.bool true) := cellOf hT2 3 rfl
       have n3 : w2.cell? ⟨x, 3, none⟩ = some (.pointer q0) := by rw [← HQ0.out]; exact cellOf hD2 3 rfl
       have n4 : w2.cell? ⟨x, 4, none⟩ = some (.int .i64 T0.keys) := by rw [← HK0.out]; exact cellOf hD2 4 rfl
       have HT2 := hide hT2
       have HD2 := hide hD2
       have HR2 := hide hR2
       have HO2 := hide ho2
       clear hT2 hD2 hR2 ho2)))
  have hrm := @run_range_map Tryz.prog
  obtain ⟨es, clk, hm2, hmk, hborn, _⟩ := HR2.out
  obtain ⟨e0, hes, hek⟩ : ∃ e0 : MapEntry, es = #[e0] ∧ e0.key = pk ρ.t := by
    have hk1 : es.toList.map (·.key) = [pk ρ.t] := hmk
    match hel : es.toList, hk1 with
    | [e0], hk1 =>
      refine ⟨e0, ?_, by simpa using hk1⟩
      apply Array.toList_inj.1
      rw [hel]
    | [], hk1 => simp at hk1
    | _ :: _ :: _, hk1 => simp at hk1
  subst hes
  have hr2 : ¬ (ρ.t = t ∨ ρ.t = x ∨ ρ.t = s.rd) := fun e => by
    rcases e with e | e | e
    · exact hρne e
    · exact hρx e
    · exact HR.out.ne_blk HRHO.out e.symm
  have hO2 : Only (fun y => y = t ∨ y = x ∨ y = s.rd) w w2 := (HO1.out.mono fun _ _ h => .inr (.inl h)).trans HO2.out
  have hρ2 : TxAt w2 ρ.t ⟨x, ρ.rp, ρ.T.keys, false, false, 0⟩ := Blk.only HRHO.out hO2 hr2
  obtain ⟨W3, hW3⟩ : ∃ W3, W3 = w2.alloc (.cells #[.pointer q0, .int .i64 T0.keys] 88) := ⟨_, rfl⟩
  rw [← hW3]
  have hb3 : Below w2.heap.size w2 W3 := by rw [hW3]; exact (Below.refl _ _).alloc (Nat.le_refl _) _
  have hz3 : w2.heap.size < W3.heap.size := by rw [hW3]; simp
  have hg3 : Blk W3 w2.heap.size 88 #[.pointer q0, .int .i64 T0.keys] := by rw [hW3]; exact Blk.new _ _ _
  have hm3 : W3.heap[s.rd]? = some (.map #[e0] clk) := (hb3.block s.rd (Array.getElem?_eq_some_iff.1 hm2).1).trans hm2
  have hrg := run_range_map (P := Tryz.prog) W3 89 29 3 s.rd #[e0] clk Tryz.underlying89 hm3
  have hnx := next_one (P := Tryz.prog) W3 0 s.rd clk e0 hm3 (hborn e0 (by simp))
  rw [hek] at hnx
  have hen : (Instr.entry (.pointer (some ⟨W3.heap.size, 0, none⟩))).run Tryz.prog (W3.alloc (.mapIter (some s.rd) clk #[e0.born] clk)) = .ok (.tuple #[pk ρ.t, e0.val]) (W3.alloc (.mapIter (some s.rd) clk #[e0.born] clk)) := by
    have := run_entry_map (P := Tryz.prog) W3 s.rd clk #[] #[e0] clk e0 hm3 (by simp) (by simp)
    rw [hek] at this
    exact this
  have hρ4 : TxAt W3 ρ.t ⟨x, ρ.rp, ρ.T.keys, false, false, 0⟩ := Blk.below hρ2 hb3 (Blk.lt hρ2)
  have y1 : ∀ o, (W3.alloc o).cell? ⟨ρ.t, 1, none⟩ = some (.pointer q1) := fun o => cellA o (by rw [← HQ1.out]; exact cellOf hρ4 1 rfl)
  have y2 : ∀ o, (W3.alloc o).cell? ⟨ρ.t, 2, none⟩ = some (.int .i64 ρ.T.keys) := fun o => cellA o (cellOf hρ4 2 rfl)
  have n6 : W3.cell? ⟨x, 6, none⟩ = some (.map (some s.rd)) := cellOf (HD2.out.below hb3 HD2.out.lt) 6 rfl
  have n0 : W3.cell? ⟨t, 0, none⟩ = some (.pointer (some ⟨x, 0, none⟩)) := cellOf (Blk.below HT2.out hb3 (Blk.lt HT2.out)) 0 rfl
  have HEK := hide hek
  have HZ3 := hide hz3
  unfold pk at hnx hen
  have HB3 := hide hb3
  have HG3 := hide hg3
  have HM3 := hide hm3
  have HO2' := hide hO2
  have HRHO2 := hide hρ2
  have HBORN := hide hborn
  clear hm2 hmk hW3 hb3 hg3 hm3 hO2 hρ2 hborn hrm m0 m3 n3 n4 hρ4 hek hz3
  go_wp2_with fail
  refine wp_loop_rounds 2 ?_
  rw [rounds_succ]
  have hbi : Below w2.heap.size w2 (W3.alloc (.mapIter (some s.rd) clk #[e0.born] clk)) := HB3.out.alloc HB3.out.size _
  obtain ⟨W5, hW5⟩ : ∃ W5, W5 = W3.alloc (.mapIter (some s.rd) clk #[e0.born] clk) := ⟨_, rfl⟩
  rw [← hW5] at hbi hen
  have hi5 : W5.heap[W3.heap.size]? = some (.mapIter (some s.rd) clk #[e0.born] clk) := by rw [hW5]; exact heap_alloc_new W3 _
  have hm5 : W5.heap[s.rd]? = some (.map #[e0] clk) := by rw [hW5, heap_alloc_old W3 _ (Array.getElem?_eq_some_iff.1 HM3.out).1]; exact HM3.out
  have hg5 : Blk W5 w2.heap.size 88 #[.pointer q0, .int .i64 T0.keys] := by rw [hW5]; exact HG3.out.alloc _
  have hy1 : W5.cell? ⟨ρ.t, 1, none⟩ = some (.pointer q1) := by rw [hW5]; exact y1 _
  have hy2 : W5.cell? ⟨ρ.t, 2, none⟩ = some (.int .i64 ρ.T.keys) := by rw [hW5]; exact y2 _
  have hz5 : W3.heap.size < W5.heap.size := by rw [hW5]; simp
  obtain ⟨W6, hW6⟩ : ∃ W6, W6 = W5.alloc (.cells #[.pointer q1, .int .i64 ρ.T.keys] 88) := ⟨_, rfl⟩
  have hb6 : Below W5.heap.size W5 W6 := by rw [hW6]; exact (Below.refl _ _).alloc (Nat.le_refl _) _
  have hz5e : W5.heap.size = W3.heap.size + 1 := by rw [hW5]; exact World.size_alloc _ _
  have hx6 : Blk W6 (W3.heap.size + 1) 88 #[.pointer q1, .int .i64 ρ.T.keys] := by rw [hW6, ← hz5e]; exact Blk.new _ _ _
  have hown6 : W6.ownsRow w2.heap.size 88 2 (.slice (some ⟨w2.heap.size, 0, none⟩) 1 1) 1 [.pointer q0, .int .i64 T0.keys] :=
    ⟨rfl, .inr ⟨w2.heap.size, 1, _, rfl, Nat.le_refl _, hg5.below hb6 hg5.lt, Nat.le_refl _, by unfold maxLen; omega, rfl, rfl⟩⟩
  obtain ⟨i0, hi0, hz0, hz1, hz2⟩ := info_parts info_tree
  have hc6 : ∀ j u, [Value.pointer q1, Value.int .i64 ρ.T.keys][j]? = some u → W6.cell? (Addr.add ⟨W3.heap.size + 1, 0, none⟩ j) = some u := fun j u hu => by
    match j, hu with
    | 0, hu => cases hu; exact cellOf hx6 0 rfl
    | 1, hu => cases hu; exact cellOf hx6 1 rfl
  have HBI := hide hbi
  have HI5 := hide hi5
  have HM5 := hide hm5
  have HB6 := hide hb6
  have HOWN6 := hide hown6
  have HI0 := hide hi0
  have HZ0 := hide hz0
  have HZ1 := hide hz1
  have HZ2 := hide hz2
  have HC6 := hide hc6
  have HZ5 := hide hz5
  clear hz5e y1 y2 hbi hi5 hm5 hg5 hb6 hx6 hown6 hi0 hz0 hz1 hz2 hc6 hz5
  subst hW6
  subst hW5
  go_wp2_with (first
    | (at_builtin; go_loud (
       refine wpList_append_own_at _ rfl _ _ 104 rfl w2.heap.size 88 i0 _ 2 16 Tryz.underlying104 HI0.out HZ0.out HZ1.out HZ2.out rfl (by decide) (.slice (some ⟨w2.heap.size, 0, none⟩) 1 1) 1 _ rfl HOWN6.out _ 1 1 [.pointer q1, .int .i64 ρ.T.keys] rfl rfl HC6.out (by simp [Value.oneCell']) (by unfold maxLen; omega) (by omega) (Nat.le_trans (Nat.le_of_lt (Nat.lt_of_le_of_lt HB3.out.size HZ5.out)) HB6.out.size) ?_
       intro v' w7 hown' hgr hnil hat
       obtain ⟨A', c', rfl, _⟩ := ownN_form hown'
       have HOWN' := hide hown'
       have HGR := hide hgr
       have HAT := hide hat
       clear hown' hgr hnil hat)))
  have hz3 := HZ3.out
  have hbl7 : Below w2.heap.size w2 w7 := (HBI.out.trans (HB6.out.mono HBI.out.size)).grown HGR.out (Nat.le_trans HBI.out.size HB6.out.size) (fun g e => by cases e; exact Nat.le_refl _)
  have hi7 : w7.heap[W3.heap.size]? = some (.mapIter (some s.rd) clk #[e0.born] clk) := (HGR.out.block W3.heap.size (by simp; omega) (fun e => absurd (show W3.heap.size = w2.heap.size by simpa [Value.ownBlock] using e) (by omega))).trans ((HB6.out.block W3.heap.size HZ5.out).trans HI5.out)
  have hrl : s.rd < w2.heap.size := HR2.out.lt
  have hm7 : w7.heap[s.rd]? = some (.map #[e0] clk) := (HGR.out.block s.rd (by simp; omega) (fun e => absurd (show s.rd = w2.heap.size by simpa [Value.ownBlock] using e) (by omega))).trans ((HB6.out.block s.rd (by have := HZ5.out; omega)).trans HM5.out)
  have hnx7 := next_end (P := Tryz.prog) w7 0 W3.heap.size s.rd clk clk clk #[e0.born] #[e0] hi7 hm7 HBORN.out (Nat.le_refl _) (by simp)
  have HM7 := hide hm7
  have hρ7 : TxAt w7 ρ.t ⟨x, ρ.rp, ρ.T.keys, false, false, 0⟩ := Blk.below HRHO2.out hbl7 (Blk.lt HRHO2.out)
  obtain ⟨hc7, hcm7⟩ : 2 ≤ c' ∧ c' ≤ maxLen := by
    obtain ⟨_, _, e, e1, e2, _⟩ := ownN_form HOWN'.out
    injection e with x1 x2 x3
    subst x3
    exact ⟨e1, e2⟩
  clear hz3 hi7 hrl hm7
  have hT4 : TxAt w7 t ⟨x, rp, T.keys, true, true, stamp⟩ := Blk.below HT2.out hbl7 (Blk.lt HT2.out)
  have hD4 : Blk w7 x 91 (DbCells (s.ended true) 1) := HD2.out.below hbl7 HD2.out.lt
  have p0 : w7.cell? ⟨t, 0, none⟩ = some (.pointer (some ⟨x, 0, none⟩)) := cellOf hT4 0 rfl
  have p1 : w7.cell? ⟨t, 1, none⟩ = some (.pointer q) := by rw [← HQ.out]; exact cellOf hT4 1 rfl
  have p2 : w7.cell? ⟨t, 2, none⟩ = some (.int .i64 T.keys) := cellOf hT4 2 rfl
  have p3 : w7.cell? ⟨x, 2, none⟩ = some (.pointer (some ⟨s.dk, 0, none⟩)) := cellOf hD4 2 rfl
  have hO4 : Only (fun y => y = t ∨ y = x ∨ y = s.rd) w w7.drew := (((HO1.out.mono fun _ _ h => .inr (.inl h)).trans HO2.out).below hbl7).drew
  have hne4 : ∀ y T cs, Blk w y T cs → T ≠ 94 → T ≠ 91 → ¬ (y = t ∨ y = x ∨ y = s.rd) := fun y T cs hy a1 a2 e => by
    rcases e with e | e | e
    · exact Blk.ne_ hy HT.out a1 e
    · exact Blk.ne_ hy HD.out a2 e
    · exact HR.out.ne_blk hy e.symm
  have hrt7 : ∀ {T rp ds}, TreeV (fun z => z < w.heap.size) w T rp ds → TreeV (fun z => z < w7.drew.heap.size) w7.drew T rp ds := fun hv => (hv.only hO4 fun z T' cs _ hz hT => hne4 z T' cs hz (fun e => notImm (X := 94) (by decide) (by decide) (by decide) (e ▸ hT)) (fun e => notImm (X := 91) (by decide) (by decide) (by decide) (e ▸ hT))).more fun z hz => Nat.lt_of_lt_of_le hz hO4.size
  obtain ⟨g7, rfl, hg7, hx7⟩ : ∃ g7, A' = some ⟨g7, 0, none⟩ ∧ g7 < w7.heap.size ∧ ∃ cur, Blk w7 g7 88 cur ∧ cur.toList.take 4 = [.pointer q0, .int .i64 T0.keys, .pointer q1, .int .i64 ρ.T.keys] := by
    rcases HOWN'.out.2 with ⟨h0, h1⟩ | ⟨g', cap, cur, e1, e2, e3, e4, e5, e6, e7⟩
    · cases h1
    · injection e1 with x1 x2 x3
      exact ⟨g', x1, Blk.lt (t := 88) e3, cur, e3, e7⟩
  obtain ⟨cur7, hb7, htk7⟩ := hx7
  have hcc : ∀ i v, [Value.pointer q0, .int .i64 T0.keys, .pointer q1, .int .i64 ρ.T.keys][i]? = some v → w7.drew.cell? ⟨g7, i, none⟩ = some v := fun i v hv => by
    rw [← htk7, List.getElem?_take] at hv
    split at hv
    · exact cellOf hb7.drew i (by simpa using hv)
    · cases hv
  have hcin : ComIn w7.drew K b g base n cv m bytes cache s.dk hd T rp ds (some ⟨g7, 0, none⟩) c' [(T0, s.root, []), (ρ.T, ρ.rp, [])] := by
    have h1 := H0.out
    refine ⟨h1.disk.only hO4 (fun y hy e => ?_), h1.calm, h1.dkb.only hO4 (hne4 _ _ _ h1.dkb (by decide) (by decide)), hrt7 h1.tree, h1.nd, fun i hi => ?_, ⟨by simp, hc7, hcm7⟩, h1.size, h1.slot, h1.gen, h1.fit, h1.small, HROOM.out, h1.num, h1.cache_⟩
    · rcases hy with rfl | rfl | hy
      · exact hne4 _ _ _ h1.disk.at_ (by decide) (by decide) e
      · exact hne4 _ _ _ h1.disk.blk (by decide) (by decide) e
      · rcases h1.disk.own.2 with ⟨h0, _⟩ | ⟨g', cap, cur, e1, e2, e3, e4⟩
        · rw [h0] at hy; simp [Value.ownBlock] at hy
        · rw [e1] at hy
          have : y = g' := by simpa [Value.ownBlock] using hy
          subst this
          exact hne4 _ _ _ (show Blk w y 113 cur from e3) (by decide) (by decide) e
    · have hi2 : i = 0 ∨ i = 1 := by simp at hi; omega
      rcases hi2 with rfl | rfl
      · exact ⟨g7, 0, rfl, hg7, by show _ = some s.root; rw [HQ0.out]; exact hcc 0 _ rfl, hcc 1 _ rfl, hrt7 h1.old⟩
      · exact ⟨g7, 0, rfl, hg7, by show _ = some ρ.rp; rw [HQ1.out]; exact hcc 2 _ rfl, hcc 3 _ rfl, hrt7 HRT.out⟩
  have COM := hide (show Calls Tryz.prog 60 #[.pointer (some ⟨s.dk, 0, none⟩), treeV rp T.keys, .slice (some ⟨g7, 0, none⟩) 2 c'] w7.drew _ from commit_any K b g base n cv m bytes cache s.dk hd T rp ds (some ⟨g7, 0, none⟩) c' [(T0, s.root, []), (ρ.T, ρ.rp, [])] w7.drew hcin)
  unfold treeV at COM
  rw [HQ.out] at COM
  have HTR := hide hcin
  have HT4 := hide hT4
  have HD4 := hide hD4
  have HO4 := hide hO4
  have S4 := hide (show w7.drew.cell? ⟨t, 0, none⟩ = some (.pointer (some ⟨x, 0, none⟩)) ∧ w7.drew.cell? ⟨x, 2, none⟩ = some (.pointer (some ⟨s.dk, 0, none⟩)) ∧ w7.drew.cell? ⟨t, 1, none⟩ = some (.pointer q) ∧ w7.drew.cell? ⟨t, 2, none⟩ = some (.int .i64 T.keys) from ⟨p0, p3, p1, p2⟩)
  have HR7 := hide hρ7
  have HRV7 := hide (hrt7 HRT.out)
  clear hbl7 hT4 hD4 hO4 hne4 hcin hrt7 hb7 hcc htk7 hg7 p1 p2 p3 hρ7
  rw [rounds_succ]
  go_upto_region 14 with fail
  go_region_held3 (fun w' => w'.cell? ⟨t, 0, none⟩ = some (.pointer (some ⟨x, 0, none⟩)) ∧ w'.cell? ⟨x, 2, none⟩ = some (.pointer (some ⟨s.dk, 0, none⟩)) ∧ w'.cell? ⟨t, 1, none⟩ = some (.pointer q) ∧ w'.cell? ⟨t, 2, none⟩ = some (.int .i64 T.keys)) (first | exact S4.out | assumption)
    (first
      | (go_at_call 60; (with_reducible refine COM.out.mono ?_); rintro e w8 ⟨rfl, hout⟩
         have hk5 : ∀ {y T cs}, Blk w7.drew y T cs → T ≠ 103 → T ≠ 111 → T ≠ 113 → T ≠ 151 → T ≠ 137 → Blk w8 y T cs := fun hy a1 a2 a3 a4 a5 => hy.only hout.only fun e => by
           rcases e with e | e | e
           · exact HTR.out.disk.ne hy a1 a2 a3 e
           · exact Blk.ne_ hy HTR.out.dkb a4 e
           · obtain ⟨_, _, _, _, hn⟩ := HTR.out.tree.dirt _ e
             exact Blk.ne_ hy hn a5 rfl
         have hT5 : TxAt w8 t ⟨x, rp, T.keys, true, true, stamp⟩ := hk5 (show Blk w7.drew t _ _ from HT4.out) (by decide) (by decide) (by decide) (by decide) (by decide)
         have hD5 : Blk w8 x 91 (DbCells (s.ended true) 1) := hk5 (show Blk w7.drew x _ _ from HD4.out) (by decide) (by decide) (by decide) (by decide) (by decide)
         have hs5 : w8.cell? ⟨t, 0, none⟩ = some (.pointer (some ⟨x, 0, none⟩)) ∧ w8.cell? ⟨x, 2, none⟩ = some (.pointer (some ⟨s.dk, 0, none⟩)) ∧ w8.cell? ⟨t, 1, none⟩ = some (.pointer q) ∧ w8.cell? ⟨t, 2, none⟩ = some (.int .i64 T.keys) := ⟨cellOf hT5 0 rfl, cellOf hD5 2 rfl, by rw [← HQ.out]; exact cellOf hT5 1 rfl, cellOf hT5 2 rfl⟩
         have HR8 := hide (show TxAt w8 ρ.t ⟨x, ρ.rp, ρ.T.keys, false, false, 0⟩ from hk5 (show Blk w7.drew ρ.t _ _ from HR7.out) (by decide) (by decide) (by decide) (by decide) (by decide))
         have S5 := hide hs5
         have HT5 := hide hT5
         have HD5 := hide hD5
         have HOUT := hide hout
         clear hk5 hT5 hD5 hout))
  have u0 : w8.cell? ⟨t, 0, none⟩ = some (.pointer (some ⟨x, 0, none⟩)) := S5.out.1
  have u1 : w8.cell? ⟨t, 1, none⟩ = some (.pointer q) := S5.out.2.2.1
  have u2 : w8.cell? ⟨t, 2, none⟩ = some (.int .i64 T.keys) := S5.out.2.2.2
  have u3 : w8.cell? ⟨x, 3, none⟩ = some s.root := cellOf HD5.out 3 rfl
  have u4 : w8.cell? ⟨x, 4, none⟩ = some (.int .i64 s.keys) := cellOf HD5.out 4 rfl
  have v3 : w8.frozen? ⟨x, 3, none⟩ = false := HD5.out.frozen 3
  have v4 : w8.frozen? ⟨x, 4, none⟩ = false := HD5.out.frozen 4
  have hxt : ¬ x = t := fun e => htx e.symm
  have htx' : ¬ t = x := htx
  have S6 := hide (show ∀ w6, w6 = (w8.setCell ⟨x, 3, none⟩ (.pointer q)).setCell ⟨x, 4, none⟩ (.int .i64 T.keys) → w6.cell? ⟨t, 0, none⟩ = some (.pointer (some ⟨x, 0, none⟩)) ∧ w6.cell? ⟨t, 1, none⟩ = some (.pointer q) ∧ w6.cell? ⟨t, 2, none⟩ = some (.int .i64 T.keys) from fun w6 e => by
    have hO : Only (· = x) w8 w6 := by rw [e]; exact (Only.set1 _ _ _ _).set2 _ _
    have := Blk.only HT5.out hO htx
    exact ⟨cellOf this 0 rfl, by rw [← HQ.out]; exact cellOf this 1 rfl, cellOf this 2 rfl⟩)
  clear n0 n6 p0 hrg hnx
  go_upto_region 16 with fail
  go_region_held3 (fun w' => w'.cell? ⟨t, 0, none⟩ = some (.pointer (some ⟨x, 0, none⟩)) ∧ w'.cell? ⟨t, 1, none⟩ = some (.pointer q) ∧ w'.cell? ⟨t, 2, none⟩ = some (.int .i64 T.keys)) (first | go_keep | exact S6.out _ rfl) (fail)
  go_wp2
  obtain ⟨W6, hW6⟩ : ∃ W6, W6 = ((w8.setCell ⟨x, 3, none⟩ (.pointer q)).setCell ⟨x, 4, none⟩ (.int .i64 T.keys)).drew := ⟨_, rfl⟩
  rw [← hW6]
  have hO6 : Only (· = x) w8 W6 := by rw [hW6]; exact ((Only.set1 _ _ _ _).set2 _ _).drew
  have hD6 : Blk W6 x 91 (DbCells ⟨s.dk, rp, T.keys, .pointer none, s.rd, false⟩ 1) := by
    rw [hW6, HQ.out, ← HPOI.out]
    exact ((HD5.out.set_ 3 (.pointer q)).set_ 4 (.int .i64 T.keys)).drew
  refine leaves_cons (f := 52) (args := #[.pointer (some ⟨x, 0, none⟩)]) (by simp) (by simp [go_sem]) ?_
  refine (unlock_at .returning hD6 rfl).mono ?_
  rintro e u' w9 ⟨rfl, rfl, hb7, ho7, hs7⟩
  have hO57 : Only (· = x) w8 w9 := hO6.trans ho7
  have hmap4 : w7.heap[s.rd]? = some (.map #[e0] clk) := HM7.out
  have hrdn : ¬ (dfp b g cv s.rd ∨ s.rd = s.dk ∨ s.rd ∈ ds) := by
    have hno : ∀ {y T cs}, Blk w7.drew y T cs → s.rd ≠ y := fun hy e => by
      subst e
      have hy : w7.heap[s.rd]? = _ := hy
      rw [hmap4] at hy; cases hy
    rintro (e | e | e)
    · rcases e with e | e | e
      · exact hno HTR.out.disk.at_ e
      · exact hno HTR.out.disk.blk e
      · rcases HTR.out.disk.own.2 with ⟨h0, _⟩ | ⟨g', cap, cur, e1, e2, e3, e4⟩
        · rw [h0] at e; simp [Value.ownBlock] at e
        · rw [e1] at e
          have : s.rd = g' := by simpa [Value.ownBlock] using e
          exact hno (show Blk w7.drew g' 113 cur from e3) this
    · exact hno HTR.out.dkb e
    · obtain ⟨_, _, _, _, hn⟩ := HTR.out.tree.dirt _ e
      exact hno hn rfl
  have hmap5 : w8.heap[s.rd]? = some (.map #[e0] clk) := (HOUT.out.only.block s.rd (Array.getElem?_eq_some_iff.1 hmap4).1 hrdn).trans hmap4
  have hrd7 : RdAt w9 s.rd [ρ.t] := RdAt.only (⟨#[e0], clk, hmap5, by simp [HEK.out], by simpa using HBORN.out, by simp⟩ : RdAt w8 s.rd [ρ.t]) hO57 hrx
  refine ⟨.nilIface, by simp [results, Tryz.results26, go_sem], rfl, ⟨hb7, hrd7, Blk.only HR8.out hO57 hρx, ((HOUT.out.others _ _ HRV7.out).at1 HD5.out (notImm (by decide) (by decide) (by decide)) hO57).more fun z hz => Nat.lt_of_lt_of_le hz (Nat.le_trans HOUT.out.only.size hO57.size), Blk.only HT5.out hO57 htx, HOUT.out.disk.only hO57 (fun y hy e => ?_), HOUT.out.dkb.only hO57 (fun e => Blk.ne_ HOUT.out.dkb HD5.out (by decide) e), ?_, ?_⟩⟩
  · subst e; exact HOUT.out.disk.ne HD5.out (by decide) (by decide) (by decide) hy
  · rw [HQ.out]; exact (HOUT.out.tree.at1 HD5.out (notImm (by decide) (by decide) (by decide)) hO57).more fun z hz => Nat.lt_of_lt_of_le hz (Nat.le_trans HOUT.out.only.size hO57.size)
  · exact ((HO4.out.mono fun y _ h => .inr h).trans (HOUT.out.only.mono fun y _ h => .inl h)).trans (hO57.mono fun y _ h => .inr (.inr (.inl h)))
end Go.Proofs.YtemondlgcmpbbaaGreatDoor

/- The store as one thing: Commit where one reads. -/
namespace Go.Proofs.YtemondlgcmpbbaaGreatDoor
open Go.RowKit

theorem room_of2 {V V' V'' : Str → Prop} {t t0 t1 : Tree} {rp0 rp1 : Value} {ds : List Nat} {n : Nat} (h : Good V t) (h0 : Good V' t0) (h1 : Good V'' t1) (hd : ds.length = tdirty t) (hn : t.keys + t0.keys + t1.keys + 20 ≤ n) : ds.length ≤ (fr (usedL [(t0, rp0, []), (t1, rp1, [])] t) n 2).length := by
  have h1' := fr_len (usedL [(t0, rp0, []), (t1, rp1, [])] t) n 2
  have h2 : (usedL [(t0, rp0, []), (t1, rp1, [])] t).length ≤ tnodes t0 + tnodes t1 + (tnodes t - tdirty t) := by
    unfold usedL
    have a := inss_len t.cblks (([(t0, rp0, ([] : List Nat)), (t1, rp1, [])].flatMap fun r => r.1.blks).foldl ins [])
    have b := inss_len ([(t0, rp0, ([] : List Nat)), (t1, rp1, [])].flatMap fun r => r.1.blks) []
    have c : ([(t0, rp0, ([] : List Nat)), (t1, rp1, [])].flatMap fun r => r.1.blks).length = tnodes t0 + tnodes t1 := by simp [Tree.blks_len]
    have d := t.cblks_len
    simp only [List.length_nil] at b
    omega
  have h3 := h.tf.nodes_le h.tr.tw h.few
  have h4 := h0.tf.nodes_le h0.tr.tw h0.few
  have h6 := h1.tf.nodes_le h1.tr.tw h1.few
  have h5 := t.cblks_len
  omega

section
variable {N K b n x G : Nat} {T : Tree} {r : SR} {ρ : Rdr} {w w' : World}
theorem sr_commitR {V V' V'' : Str → Prop} {t S : Nat} {T1 : Tree} {rp : Value} {ds : List Nat} {stamp : Int} (h : StoreR N w K b n x G (.pointer (some ⟨t, 0, none⟩)) T r [ρ]) (ht : Trans N w t x S T1 rp ds stamp) (hg : Good V T1) (hg0 : Good V' T) (hg1 : Good V'' ρ.T) (hn : 8 ≤ n ∧ n ≤ 400) (hG : G + 1 < 1073741824) (hK : K + 200 < edge) (hroom : T1.keys + T.keys + ρ.T.keys + 20 ≤ n) (hd : tdirty T1 ≤ 190) :
    Calls Tryz.prog 26 #[.pointer (some ⟨t, 0, none⟩)] w fun e w' => e = .returned .nilIface ∧ (∃ T' r', StoreR N w' (K + 200) b n x (G + 1) (.pointer none) T' r' [ρ] ∧ Good V T' ∧ tdirty T' = 0 ∧ T'.pairs = T1.pairs ∧ T'.keys = T1.keys) ∧ KpP N w w' := by
  have hlen : ds.length = tdirty T1 := ht.tree.count
  obtain ⟨q1, q2, q3⟩ := h.rds ρ (by simp)
  refine (xcommitR_ok t x rp T1 ds stamp ⟨r.dk, r.rp, T.keys, .pointer (some ⟨t, 0, none⟩), r.rd, false⟩ T K b r.g r.base n (.slice none 0 0) r.m r.bytes [] r.hd w ht.tx h.db rfl ρ q1 q2 h.rd rfl
    ⟨h.disk, h.calm, h.dkb, ht.tree, ht.nd, h.tree, hn, h.slot, by have := h.gen; omega, hg.tf.q0, hg.sm, room_of hg hg0 hlen (by omega), by omega, by simp⟩ (room_of2 hg hg0 hg1 hlen hroom)).mono ?_
  rintro e w' ⟨rfl, hp⟩
  have hgen := h.gen
  have hlay := hg.lay (g := r.hd.gen + 1) (n0 := n) (xs := comXs [(T, r.rp, []), (ρ.T, ρ.rp, [])] T1 n ds.length) (by omega) (by omega) (by omega) (fun y hy => (fr_mem (List.mem_of_mem_take hy)).2.1)
  refine ⟨rfl, ⟨T1.lay (r.hd.gen + 1) false (comXs [(T, r.rp, []), (ρ.T, ρ.rp, [])] T1 n ds.length), ⟨r.g, r.base, _, _, r.dk, r.rd, ⟨1 - r.hd.slot, r.hd.gen + 1, _, _⟩, rp⟩, ⟨hp.disk.more (by omega), ?_, hp.dkb, by show 1 - r.hd.slot < 2; omega, by show r.hd.gen + 1 ≤ G + 1; omega, hp.db, hp.rd, hp.tree, h.nb, h.ng, h.ndk, h.nx, h.nrd, (fun σ hσ => by rw [List.mem_singleton.1 hσ]; exact ⟨hp.rdr, hp.rtree, q3⟩), by simp⟩, hlay.1, hlay.2, Tree.lay_pairs _ _ _ _, rfl⟩, KpP.of_only hp.only h.size (fun y e => ?_) fun y cs hy e => ?_⟩
  · exact ((wrotes_calm h.calm _).tick.wrote).tick
  · rcases e with (e | rfl | e) | rfl | rfl | rfl
    · rcases e with rfl | rfl | e
      · exact h.nb
      · exact h.ng
      · simp [Value.ownBlock] at e
    · exact h.ndk
    · exact ht.nds y e
    · exact ht.nt
    · exact h.nx
    · exact h.nrd
  · rcases e with (e | e | e) | e | e | e
    · exact h.disk.ne hy (by decide) (by decide) (by decide) e
    · exact Blk.ne_ hy h.dkb (by decide) e
    · obtain ⟨_, _, _, _, hn⟩ := ht.tree.dirt _ e
      exact Blk.ne_ hy hn (by decide) rfl
    · exact Blk.ne_ hy ht.tx (by decide) e
    · exact Blk.ne_ hy h.db (by decide) e
    · exact h.rd.ne_blk hy e.symm
end
end Go.Proofs.YtemondlgcmpbbaaGreatDoor
