/- Walks: shadowkeep's same. -/
import Derived.Test.YtemondlgcmpbbaaGreatDoorMS34
import Derived.Laws.StructEq
import Derived.RegionTactic
import Derived.BigRegion
namespace Go.Proofs.YtemondlgcmpbbaaGreatDoor
open Go.RowKit

def eqP (a b : Str × Str) : Bool := seq a.1 b.1 && seq a.2 b.2
theorem eqP_iff (a b : Str × Str) : eqP a b = true ↔ a = b := by
  unfold eqP
  rw [Bool.and_eq_true]
  refine ⟨fun ⟨h1, h2⟩ => Prod.ext (seq_iff.1 h1) (seq_iff.1 h2), fun h => by subst h; exact ⟨seq_self _, seq_self _⟩⟩
theorem pairCells_at : ∀ (l : List (Str × Str)) (k : Nat) (h : k < l.length), (pairCells l)[k * 2]? = some (.string l[k].1) ∧ (pairCells l)[k * 2 + 1]? = some (.string l[k].2)
  | a :: l, 0, _ => ⟨rfl, rfl⟩
  | a :: l, k + 1, h => by
    have := pairCells_at l k (by simpa using h)
    have e : pairCells (a :: l) = Value.string a.1 :: Value.string a.2 :: pairCells l := rfl
    rw [e, show (k + 1) * 2 = k * 2 + 1 + 1 by omega]
    exact this
theorem PRow.cells {w : World} {v : Value} {l : List (Str × Str)} (h : PRow w v l) : (v = .slice none 0 0 ∧ l = []) ∨ ∃ g c, v = .slice (some ⟨g, 0, none⟩) l.length c ∧ l.length ≤ c ∧ c ≤ maxLen ∧ ∀ k (hk : k < l.length), w.cell? ⟨g, k * 2, none⟩ = some (.string l[k].1) ∧ w.cell? ⟨g, k * 2 + 1, none⟩ = some (.string l[k].2) := by
  obtain ⟨base, h1, h2⟩ := h
  rcases h2 with ⟨h0, h3⟩ | ⟨g, cap, cur, hv, _, hg, a1, a2, a3, a4⟩
  · exact .inl ⟨h0, List.length_eq_zero_iff.1 h3⟩
  · refine .inr ⟨g, cap, hv, a1, a2, fun k hk => ?_⟩
    have hb : Blk w g 68 cur := hg
    have hc := pairCells_at l k hk
    rw [← a4] at hc
    rw [List.getElem?_take_of_lt (by omega), List.getElem?_take_of_lt (by omega)] at hc
    exact ⟨cellOf hb _ (by simpa using hc.1), cellOf hb _ (by simpa using hc.2)⟩

set_option maxRecDepth 100000 in
set_option maxHeartbeats 1000000 in
theorem same_any (va vb : Value) (la lb : List (Str × Str)) (w : World) (ha : PRow w va la) (hb : PRow w vb lb) (h1 : la.length ≤ 1000) (h2 : lb.length ≤ 1000) :
    Calls Tryz.prog 33 #[va, vb] w fun e w' => e = .returned (.bool (decide (la = lb))) ∧ Below w.heap.size w w' := by
  have hva : ∃ A c, va = .slice A la.length c := ha.form
  have hvb : ∃ A c, vb = .slice A lb.length c := hb.form
  have hca := ha.cells
  have hcb := hb.cells
  obtain ⟨A, ca, rfl⟩ := hva
  obtain ⟨B, cb, rfl⟩ := hvb
  clear ha hb
  by_cases hl : la.length = lb.length
  · obtain ⟨n, hn⟩ : ∃ n, n = la.length := ⟨_, rfl⟩
    rw [← hl]
    rw [← hn] at h1 ⊢
    have HN := hide hn
    have HL := hide hl
    have HA := hide (fun k (hk : k < n) (hk' : k < la.length) => (show ∃ g, A = some ⟨g, 0, none⟩ ∧ n ≤ ca ∧ w.cell? ⟨g, k * 2, none⟩ = some (.string la[k].1) ∧ w.cell? ⟨g, k * 2 + 1, none⟩ = some (.string la[k].2) by
      rcases hca with ⟨_, rfl⟩ | ⟨g, c, e, e1, _, e3⟩
      · simp at hn; omega
      · injection e with x y z
        subst z
        exact ⟨g, x, by omega, e3 k (by omega)⟩))
    have HB := hide (fun k (hk : k < n) (hk' : k < lb.length) => (show ∃ g, B = some ⟨g, 0, none⟩ ∧ n ≤ cb ∧ w.cell? ⟨g, k * 2, none⟩ = some (.string lb[k].1) ∧ w.cell? ⟨g, k * 2 + 1, none⟩ = some (.string lb[k].2) by
      rcases hcb with ⟨_, rfl⟩ | ⟨g, c, e, e1, _, e3⟩
      · simp at hl; subst hl; simp at hn; omega
      · injection e with x y z
        subst z
        exact ⟨g, x, by omega, e3 k (by omega)⟩))
    have hee : ((n : Int) != (n : Int)) = false := by simp
    clear hca hcb hn hl h2
    go_enter Tryz.func33, Tryz.ntmps33
    go_wp2
    go_loopw [5] (fun i wr => ∃ k : Nat, k ≤ n ∧ la.take k = lb.take k ∧ i = .int .i64 k ∧ Below w.heap.size w wr) (fun i _ => n - (intOf i).toNat)
    case atStart => exact ⟨0, Nat.zero_le _, by simp, rfl, Below.refl _ _⟩
    case round =>
      obtain ⟨k, hk, ht, rfl, hbw⟩ := hrel
      have HT := hide ht
      clear ht
      by_cases hlt : k < n
      · have m0 : (0 : Int) ≤ (k : Int) := by omega
        have m1 : (k : Int) < (n : Int) := by omega
        have hka : k < la.length := by have := HN.out; omega
        have hkb : k < lb.length := by have := HN.out; have := HL.out; omega
        obtain ⟨ga, rfl, hc1, a1, a2⟩ := HA.out k hlt hka
        obtain ⟨gb, rfl, hc2, b1, b2⟩ := HB.out k hlt hkb
        replace a1 := below_cell a1 hbw
        replace a2 := below_cell a2 hbw
        replace b1 := below_cell b1 hbw
        replace b2 := below_cell b2 hbw
        obtain ⟨pa, hpa⟩ : ∃ pa, pa = la[k] := ⟨_, rfl⟩
        obtain ⟨pb, hpb⟩ : ∃ pb, pb = lb[k] := ⟨_, rfl⟩
        rw [← hpa] at a1 a2
        rw [← hpb] at b1 b2
        have HPA := hide hpa
        have HPB := hide hpb
        have HBW := hide hbw
        clear hpa hpb hbw
        have hno : ¬ pa = pb → decide (la = lb) = false := fun h => by
          simp only [decide_eq_false_iff_not]
          intro e
          apply h
          rw [HPA.out, HPB.out]
          subst e
          rfl
        have HNO := hide hno
        clear hno
        by_cases h1' : pa.1.toList = pb.1.toList
        · by_cases h2' : pa.2.toList = pb.2.toList
          · go_wp2
            go_region
            go_wp2
            have hpp : pa = pb := (eqP_iff pa pb).1 (by unfold eqP seq; simp [h1', h2'])
            go_roundw
            case rel => exact ⟨k + 1, by omega, by rw [take_snoc hka, take_snoc hkb, HT.out, ← HPA.out, ← HPB.out, hpp], by go_num, HBW.out.drew⟩
            case measure => simp [intOf]; omega
          · go_wp2
            go_region
            go_wp2
            go_ret
            exact ⟨by rw [HNO.out (fun e => h2' (by rw [e]))]; rfl, HBW.out.drew⟩
        · go_wp2
          go_region
          go_wp2
          go_ret
          exact ⟨by rw [HNO.out (fun e => h1' (by rw [e]))]; rfl, HBW.out.drew⟩
      · have m1 : ¬ (k : Int) < (n : Int) := by omega
        have HBW := hide hbw
        clear hbw
        go_wp2
        go_ret
        refine ⟨?_, HBW.out⟩
        have hkn : k = n := by omega
        have e := HT.out
        rw [hkn, List.take_of_length_le (Nat.le_of_eq HN.out.symm), List.take_of_length_le (Nat.le_of_eq (HL.out.symm.trans HN.out.symm))] at e
        rw [show decide (la = lb) = true by simpa using e]
        rfl
  · have hne : ¬ (la.length : Int) = (lb.length : Int) := by omega
    have hneb : ((la.length : Int) != (lb.length : Int)) = true := by simpa using hne
    have hdec : decide (la = lb) = false := by simp; intro e; exact hl (by rw [e])
    have HD := hide hdec
    clear hca hcb hdec hl
    go_enter Tryz.func33, Tryz.ntmps33
    go_wp2
    go_ret
    exact ⟨by rw [HD.out]; rfl, Below.refl _ _⟩
end Go.Proofs.YtemondlgcmpbbaaGreatDoor
