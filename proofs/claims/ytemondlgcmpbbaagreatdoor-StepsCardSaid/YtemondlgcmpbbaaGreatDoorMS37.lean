/- Bb Sx Sy: merged. -/
import Derived.Test.YtemondlgcmpbbaaGreatDoorMS36
import Derived.Test.YtemondlgcmpbbaaGreatDoorMS35
import Derived.Test.YtemondlgcmpbbaaGreatDoorMS06
import Derived.OwnWalk
import Derived.RegionTactic
import Derived.BigRegion
/- Walks: shadowkeep's begun. -/
namespace Go.Proofs.YtemondlgcmpbbaaGreatDoor
open Go.RowKit

theorem put_pairs_ne {t : Tree} (hw : TW t) {k v : Str} (h1 : okKey k) (h2 : okVal v) : (t.put k v).pairs ≠ [] := by
  obtain ⟨e1, _⟩ := put_pairs hw h1 h2 (key := k) (v := v)
  rw [e1]
  unfold lput
  simp

set_option maxRecDepth 100000 in
set_option maxHeartbeats 4000000 in
theorem begun_any (n : Nat) (a : Int) (w : World) (hn : 100 ≤ n ∧ n ≤ 400) (ha : I64 a) :
    Calls Tryz.prog 28 #[.int .i64 n, .int .i64 a] w fun e w' => ∃ b x v K T r, e = .returned (.tuple #[.pointer (some ⟨b, 0, none⟩), .pointer (some ⟨x, 0, none⟩), v]) ∧ K ≤ 300 ∧ StoreR w.heap.size w' K b n x 2 (.pointer none) T r [] ∧ Good V21 T ∧ tdirty T = 0 ∧ T.pairs ≠ [] ∧ PRow w' v T.pairs ∧ Below w.heap.size w w' := by
  have hB : 8 ≤ n ∧ n ≤ 400 := by omega
  have hroom : (22 : Int) ≤ roomN n := by unfold roomN; rw [Int.tdiv_eq_ediv_of_nonneg (by omega)]; omega
  have hbn : blocksN n = n := by unfold blocksN; rw [if_neg (by omega)]; omega
  have HN := hide (newDisk_any n w.heap.size w (Nat.le_refl _))
  rw [hbn] at HN
  have hf : fitsN n = true := (fitsN_iff n).2 hB
  have HPK := hide (fun W => pickk_fn a 40 W ha (by omega) (by omega))
  have hpl := pickN_lt a 40 (by omega)
  obtain ⟨p, hp⟩ : ∃ p, p = pickN a 40 := ⟨_, rfl⟩
  rw [← hp] at HPK hpl
  have HPE := hide hp
  have hp3 : IntKind.i64.wrap (3 + (p : Int)) = ((3 + p : Nat) : Int) := by rw [IntKind.wrap_i64]; omega
  have HHB := hide hB
  have HHN := hide hn
  have HRM := hide hroom
  have HFT := hide hf
  have HA := hide ha
  have HPL := hide hpl
  clear hbn hB hn hroom hf hp ha hpl
  go_enter Tryz.func28, Tryz.ntmps28
  go_wp2_with (first
    | (go_at_call 49; go_loud (
       refine HN.out.mono ?_; rintro e w1 ⟨b, g, rfl, hd1, hb1, hg1, hB1⟩
       have HF := hide (sformat_any _ _ _ _ _ _ _ _ _ _ hd1 Nums.new_calm (by decide) HFT.out)
       have HD1 := hide hd1
       have HB1 := hide hB1
       have HBG := hide (And.intro hb1 hg1)
       clear hd1 hb1 hg1 hB1))
    | (go_at_call 50; go_loud (
       refine HF.out.mono ?_; rintro e w2 ⟨rfl, hd2, ho2⟩
       obtain ⟨hdd, tl, hh, hz0, hHz⟩ := format_heads (bytes := List.replicate (n * 128) 0) (n := n) (G := 0) (by simp) HHB.out.1 (Hz_zero _ _) (by decide)
       have HO := hide (sopen_zero _ _ _ _ _ _ _ _ _ _ hd2 (((ticks_calm Nums.new_calm 2).tick.wrote).tick) (by decide) HFT.out hdd tl hh hz0)
       have HHD := hide (show hdd.slot < 2 ∧ hdd.gen ≤ 1 from ⟨(headUp_slot _ 2 hdd (headsN_mem _ hdd (by rw [hh]; simp))).1, (hHz.heads hdd (by rw [hh]; simp)).2⟩)
       have HC2 := hide (((ticks_calm Nums.new_calm 2).tick.wrote).tick)
       have HO2 := hide ho2
       clear hd2 ho2 hh hHz))
    | (go_at_call 38; go_loud (
       refine HO.out.mono ?_; rintro e w3 ⟨x, dk, rd, rfl, hdb, hrd, hdk, hx, hdkl, hrdl, hd3, ho3⟩
       have hs1 := HB1.out.size
       have hs2 := HO2.out.size
       have hw2 : w.heap.size ≤ w2.heap.size := Nat.le_trans hs1 hs2
       obtain ⟨m3, hm3, bytes3, hd3⟩ : ∃ m3 : Nums, m3.calm ∧ ∃ bytes3, Dk w3 (0 + 5 + 3) b g w.heap.size n (.slice none 0 0) m3 bytes3 [] := ⟨_, ticks_calm HC2.out 3, _, hd3⟩
       have hst : StoreR w.heap.size w3 8 b n x 1 (.pointer none) ⟨none, 0⟩ ⟨g, w.heap.size, m3, bytes3, dk, rd, hdd, .pointer none⟩ [] := Store.toR ⟨hd3, hm3, hdk, HHD.out.1, HHD.out.2, hdb, hrd, .inl ⟨rfl, rfl, rfl⟩, HBG.out.1, HBG.out.2, Nat.le_trans hw2 hdkl, Nat.le_trans hw2 hx, Nat.le_trans hw2 hrdl⟩
       have HWR := hide (writing_any a (3 + p) HA.out (by have := HPL.out; omega) hst Good.empty HRM.out)
       have HB3 := hide (show Below w.heap.size w w3 from (HB1.out.trans ((HO2.out.trans ho3).to_below hs1 (fun y e => by rcases e with rfl | rfl; exact HBG.out.1; exact HBG.out.2))))
       clear hst hdb hrd hdk hx hdkl hrdl hd3 ho3 hs1 hs2 hm3 hw2))
    | (go_at_call 18; go_loud (refine (HPK.out _).mono ?_; rintro e w' ⟨rfl, rfl⟩))
    | (go_at_call 29; go_loud (
       refine HWR.out.mono ?_; rintro e w4 ⟨t, v4, T2, rp2, ds2, st2, rfl, hs4, ht4, hg4, -, hk4⟩
       have HP4 := hide (sr_put sFirst sOfAll hs4 ht4 hg4.tr hg4.pairs sFirst_ok sOfAll_ok (by have := HPL.out; omega) (.inr (by have := hg4.keys21; have := HRM.out; omega)))
       unfold sFirst sOfAll at HP4
       have HG4 := hide hg4
       have HK4 := hide hk4
       clear hs4 ht4 hg4 hk4))
    | (go_at_call 24; go_loud (
       refine HP4.out.mono ?_; rintro e w5 ⟨rfl, hs5, ⟨rp5, ds5, ht5⟩, hk5⟩
       obtain ⟨T5, ht5, hg5, hne5⟩ : ∃ T5, Trans w.heap.size w5 t x (3 + p + 1) T5 rp5 ds5 (st2 + 1) ∧ Good V21 T5 ∧ T5.pairs ≠ [] := ⟨_, ht5, (HG4.out.put21 V21.first sFirst_ok sOfAll_ok).1, put_pairs_ne HG4.out.tr.tw sFirst_ok sOfAll_ok⟩
       have HAL := hide (kall_any t x _ _ T5 ds5 w5 ht5.tx hs5.db rfl rfl rfl ht5.tree hg5.tr hg5.pairs hg5.key8)
       have HS5 := hide hs5
       have HT5 := hide ht5
       have HG5 := hide hg5
       have HK5 := hide hk5
       have HNE := hide hne5
       clear hs5 ht5 hg5 hk5 hne5))
    | (go_at_call 32; go_loud (
       refine HAL.out.mono ?_; rintro e w6 ⟨v6, rfl, hrow, hb6⟩
       obtain ⟨A6, c6, rfl⟩ := hrow.form
       have hl0 : ¬ (T5.pairs.length : Int) = 0 := by have := HNE.out; have := mt List.length_eq_zero_iff.1 this; omega
       have hl1 : ((T5.pairs.length : Int) == 0) = false := by simpa using hl0
       have HC := hide (sr_commit (HS5.out.below hb6) (HT5.out.below hb6) HG5.out (Good.empty (V := V21)) HHB.out (by decide) (by decide) (by have := HG5.out.keys21; have := HHN.out.1; show T5.keys + 0 + 10 ≤ n; omega) (by have := HG5.out.dirty_le; omega))
       have HROW := hide hrow
       have HB6 := hide hb6
       clear hrow hb6))
    | (go_at_call 26; go_loud (
       refine HC.out.mono ?_; rintro e w7 ⟨rfl, ⟨T', r', hs7, hg7, hd7, hp7, -, -⟩, hk7⟩
       have HNW := hide (know_any hs7 (by decide) hg7.tr hg7.pairs hg7.key8)
       have HG7 := hide hg7
       have HD7 := hide hd7
       have HP7 := hide hp7
       have HK7 := hide hk7
       clear hs7 hg7 hd7 hp7 hk7))
    | (go_at_call 31; go_loud (
       refine HNW.out.mono ?_; rintro e w8 ⟨v8, rfl, hrow8, hs8, -, hk8⟩
       have HSM := hide (same_any _ v8 T5.pairs T'.pairs w8 ((HROW.out.kp HK7.out).kp hk8) hrow8 (by have := HG5.out.pairs; omega) (by have := HG7.out.pairs; omega))
       rw [show decide (T5.pairs = T'.pairs) = true by simp [HP7.out]] at HSM
       have HS8 := hide hs8
       have HK8 := hide hk8
       clear hrow8 hs8 hk8))
    | (go_at_call 33; go_loud (refine HSM.out.mono ?_; rintro e w9 ⟨rfl, hb9⟩; have HB9 := hide hb9; clear hb9)))
  refine bodyPost_ret (results_tmp3 rfl _ _ _) rfl ?_
  have hk9 : KpP w.heap.size w8 w9 := KpP.of_below HB9.out HS8.out.size
  refine ⟨b, x, _, 8 + 200, T', r', rfl, by omega, HS8.out.below HB9.out, HG7.out, HD7.out, by rw [HP7.out]; exact HNE.out, ?_, ?_⟩
  · rw [HP7.out]
    exact ((HROW.out.kp HK7.out).kp HK8.out).kp hk9
  · exact ((((((HB3.out.trans HK4.out.1).trans HK5.out.1).trans (HB6.out.mono HS5.out.size)).trans HK7.out.1).trans HK8.out.1).trans hk9.1)
end Go.Proofs.YtemondlgcmpbbaaGreatDoor

/- Walks: shadowkeep.Steps. -/
namespace Go.Proofs.YtemondlgcmpbbaaGreatDoor
open Go.RowKit

structure StW (N K d x t c P S : Nat) (T : Tree) (r : SR) (T1 : Tree) (rp : Value) (ds : List Nat) (stamp : Int) (vl : Value) (w0 : World) (q pq : Option (Str × Str)) (W : World) : Prop where
  hs : StoreR N W K d 150 x 2 (.pointer (some ⟨t, 0, none⟩)) T r []
  ht : Trans N W t x S T1 rp ds stamp
  t0 : TreeV (fun z => z < P) W T r.rp []
  t1 : TreeV (fun z => z < P) W T1 rp ds
  row : PRow W vl T1.pairs
  rlt : ∀ g, vl.ownBlock = some g → g < P
  cur : CurAt W c t (rK q) q.isSome stamp
  box : Blk W P 68 #[.string (rK pq), .string (rV pq)]
  nP : N ≤ P
  nc : N ≤ c
  low : Below N w0 W
section
variable {N K d x t c P S : Nat} {T : Tree} {r : SR} {T1 : Tree} {rp : Value} {ds : List Nat} {stamp : Int} {vl : Value} {w0 : World} {q pq : Option (Str × Str)} {W W' : World}
theorem StW.next (h : StW N K d x t c P S T r T1 rp ds stamp vl w0 q pq W) {q' : Option (Str × Str)} {e : Ending} (ho : CurOut N K d 150 x 2 (.pointer (some ⟨t, 0, none⟩)) T r [] t S T1 rp ds stamp c W q' e W') : e = .returned (.tuple #[pairV q', .bool q'.isSome, .nilIface]) ∧ StW N K d x t c P S T r T1 rp ds stamp vl w0 q' pq W' := by
  obtain ⟨h1, h2, h3, h4, h5⟩ := ho
  refine ⟨h1, h3, h4, ?_, ?_, h.row.keep fun y cs hy => hy.only h5 (cur_no h.cur hy (by decide)), h.rlt, h2, h.box.only h5 (cur_no h.cur h.box (by decide)), h.nP, h.nc, h.low.trans (h5.to_below h.hs.size fun y e => e ▸ h.nc)⟩
  · exact h.t0.only h5 fun z T' cs _ hz hT => cur_no h.cur hz (fun e => notImm (X := 118) (by decide) (by decide) (by decide) (e ▸ hT))
  · exact h.t1.only h5 fun z T' cs _ hz hT => cur_no h.cur hz (fun e => notImm (X := 118) (by decide) (by decide) (by decide) (e ▸ hT))
theorem StW.below (h : StW N K d x t c P S T r T1 rp ds stamp vl w0 q pq W) (hb : Below W.heap.size W W') : StW N K d x t c P S T r T1 rp ds stamp vl w0 q pq W' :=
  ⟨h.hs.below hb, h.ht.below hb, h.t0.move (fun z hz => hb.block z (Nat.lt_trans hz h.box.lt)) fun _ k => k, h.t1.move (fun z hz => hb.block z (Nat.lt_trans hz h.box.lt)) fun _ k => k, h.row.keep fun _y _cs hy => hy.below hb hy.lt, h.rlt, Blk.below h.cur hb (Blk.lt h.cur), h.box.below hb h.box.lt, h.nP, h.nc, h.low.trans (hb.mono h.hs.size)⟩
theorem StW.put (h : StW N K d x t c P S T r T1 rp ds stamp vl w0 q pq W) (pq' : Option (Str × Str)) : StW N K d x t c P S T r T1 rp ds stamp vl w0 q pq' ((W.setCell ⟨P, 0, none⟩ (.string (rK pq'))).setCell ⟨P, 1, none⟩ (.string (rV pq'))) := by
  have ho : Only (· = P) W ((W.setCell ⟨P, 0, none⟩ (.string (rK pq'))).setCell ⟨P, 1, none⟩ (.string (rV pq'))) := (Only.set1 _ _ _ _).set2 _ _
  have hne : ∀ {y T' cs}, Blk W y T' cs → T' ≠ 68 → ¬ (y = P) := fun hy hT => Blk.ne_ hy h.box hT
  have ht0 : TreeV (fun z => z < P) ((W.setCell ⟨P, 0, none⟩ (.string (rK pq'))).setCell ⟨P, 1, none⟩ (.string (rV pq'))) T r.rp [] := h.t0.move (fun z hz => ho.block z (Nat.lt_trans hz h.box.lt) (fun e => by omega)) fun _ k => k
  have ht1 : TreeV (fun z => z < P) ((W.setCell ⟨P, 0, none⟩ (.string (rK pq'))).setCell ⟨P, 1, none⟩ (.string (rV pq'))) T1 rp ds := h.t1.move (fun z hz => ho.block z (Nat.lt_trans hz h.box.lt) (fun e => by omega)) fun _ k => k
  have hbx := (h.box.set_ 0 (.string (rK pq'))).set_ 1 (.string (rV pq'))
  refine ⟨⟨h.hs.disk.only ho (fun y hy e => ?_), h.hs.calm, h.hs.dkb.only ho (hne h.hs.dkb (by decide)), h.hs.slot, h.hs.gen, Blk.only h.hs.db ho (hne h.hs.db (by decide)), h.hs.rd.only ho (h.hs.rd.ne_blk h.box), ht0.more fun z hz => Nat.lt_trans hz hbx.lt, h.hs.nb, h.hs.ng, h.hs.ndk, h.hs.nx, h.hs.nrd, (fun ρ hρ => by cases hρ), h.hs.nodup⟩,
    ⟨Blk.only h.ht.tx ho (hne h.ht.tx (by decide)), ht1.more fun z hz => Nat.lt_trans hz hbx.lt, h.ht.nd, h.ht.nds, h.ht.nt, h.ht.s0, h.ht.s1⟩, ht0, ht1, ?_, h.rlt, Blk.only h.cur ho (hne h.cur (by decide)), hbx, h.nP, h.nc, h.low.trans (ho.to_below h.hs.size fun y e => e ▸ h.nP)⟩
  · rcases hy with rfl | rfl | hy
    · exact hne h.hs.disk.at_ (by decide) e
    · exact hne h.hs.disk.blk (by decide) e
    · simp [Value.ownBlock] at hy
  · obtain ⟨base, h1, h2⟩ := h.row
    refine ⟨base, h1, ?_⟩
    rcases h2 with h0 | ⟨g', cap, cur, hv, hb, hgk, hrd⟩
    · exact .inl h0
    · have hlt := h.rlt g' (by rw [hv]; rfl)
      exact .inr ⟨g', cap, cur, hv, hb, Blk.only (t := 68) hgk ho (fun e => by omega), hrd⟩
theorem StW.rowAt {A : Option Addr} {L c0 : Nat} (h : StW N K d x t c P S T r T1 rp ds stamp (.slice A T1.pairs.length c0) w0 q pq W) (hL : L = T1.pairs.length) (j : Nat) (hj : j < T1.pairs.length) : ∃ g, A = some ⟨g, 0, none⟩ ∧ L ≤ c0 ∧ W.cell? ⟨g, j * 2, none⟩ = some (.string T1.pairs[j].1) ∧ W.cell? ⟨g, j * 2 + 1, none⟩ = some (.string T1.pairs[j].2) := by
  rcases h.row.cells with ⟨_, h0⟩ | ⟨g, cc, e, f1, _, f3⟩
  · rw [h0] at hj; simp at hj
  · injection e with x1 x2 x3
    subst x3
    exact ⟨g, x1, by omega, f3 j hj⟩
end
end Go.Proofs.YtemondlgcmpbbaaGreatDoor

/- Walks: shadowkeep.Steps: all pairs in order. -/
namespace Go.Proofs.YtemondlgcmpbbaaGreatDoor
open Go.RowKit

theorem optP_some {l : List (Str × Str)} {n : Nat} (h : n < l.length) : l[n]?.isSome = true ∧ rK l[n]? = l[n].1 ∧ rV l[n]? = l[n].2 := by
  rw [List.getElem?_eq_getElem h]; exact ⟨rfl, rfl, rfl⟩
theorem optP_none {l : List (Str × Str)} {n : Nat} (h : l.length ≤ n) : l[n]?.isSome = false := by
  rw [List.getElem?_eq_none h]; rfl

theorem lost_or (b : Bool) (s : Int) : b = false ∨ (b = true ∧ s ≠ s + 1) := by
  cases b
  · exact .inl rfl
  · exact .inr ⟨rfl, by omega⟩
theorem none_ok : okKey ⟨#[110, 111, 110, 101]⟩ := ⟨Nat.le_of_ble_eq_true rfl, Nat.le_of_ble_eq_true rfl⟩
def backQ (l : List (Str × Str)) (i : Nat) : Option (Str × Str) := if i = 0 then none else l[i - 1]?

set_option maxRecDepth 100000 in
set_option maxHeartbeats 8000000 in
theorem steps_any (a b : Int) (k : Str) (w : World) (ha : I64 a) (hb : I64 b) (hgl : Glob w) :
    Calls Tryz.prog 11 #[.int .i64 a, .int .i64 b, .string k] w fun e w' => e = .returned (.bool true) ∧ Below w.heap.size w w' := by
  have HBE := hide (begun_any 150 a w (by omega) ha)
  have HPK := hide (fun W => pickk_fn b 40 W hb (by omega) (by omega))
  have hpl := pickN_lt b 40 (by omega)
  obtain ⟨p, hp⟩ : ∃ p, p = pickN b 40 := ⟨_, rfl⟩
  rw [← hp] at HPK hpl
  have HPE := hide hp
  have hp1 : IntKind.i64.wrap (1 + (p : Int)) = ((1 + p : Nat) : Int) := by rw [IntKind.wrap_i64]; omega
  have HBI := hide hb
  have HPL := hide hpl
  have HGL := hide hgl
  clear hp hb hpl hgl ha
  go_enter Tryz.func11, Tryz.ntmps11
  go_wp2_with (first
    | (go_at_call 28; go_loud (
       refine HBE.out.mono ?_; rintro e w1 ⟨d, x, v1, K, T, r, rfl, hK, hs1, hg1, hd1, hne1, hrow1, hb1⟩
       have HWR := hide (writing_any b (1 + p) HBI.out (by have := HPL.out; omega) hs1 hg1 (by decide))
       have HB1 := hide hb1
       clear hK hs1 hg1 hd1 hne1 hrow1 hb1))
    | (go_at_call 18; go_loud (refine (HPK.out _).mono ?_; rintro e w' ⟨rfl, rfl⟩))
    | (go_at_call 29; go_loud (
       refine HWR.out.mono ?_; rintro e w2 ⟨t, v2, T2, rp2, ds2, st2, rfl, hs2, ht2, hg2, hrow2, hk2⟩
       obtain ⟨A2, c2, rfl⟩ := hrow2.form
       obtain ⟨q2, hq2⟩ := ht2.tree.ptr
       have HCU := hide (cursor_any t x _ _ w2 ht2.tx hs2.db rfl q2 hq2)
       have HS2 := hide hs2
       have HT2 := hide ht2
       have HG2 := hide hg2
       have HROW2 := hide hrow2
       have HB2 := hide (HB1.out.trans hk2.1)
       clear hs2 ht2 hg2 hrow2 hk2 hq2))
    | (go_at_call 42; go_loud (
       refine HCU.out.mono ?_; rintro e w3 ⟨hb3, hcu⟩
       obtain ⟨c, rfl, hcu, hcl⟩ : ∃ c, e = .returned (.tuple #[.pointer (some ⟨c, 0, none⟩), .nilIface]) ∧ CurAt w3 c t ⟨#[]⟩ false 0 ∧ w2.heap.size ≤ c := by
         rcases hcu with ⟨_, h⟩ | ⟨h, _⟩
         · exact h
         · exact absurd rfl h
       have hs3 := HS2.out.below hb3
       have ht3 := HT2.out.below hb3
       have HF := hide (sr_first hs3 ht3 hcu HG2.out.tr HG2.out.pairs)
       have HCU3 := hide hcu
       have HS3 := hide hs3
       have HT3 := hide ht3
       have HCL := hide hcl
       have HB3 := hide hb3
       clear hb3 hcu hcl hs3 ht3))
    | (go_at_call 43; go_loud (
       refine HF.out.mono ?_; rintro e w4 ⟨rfl, hc4, hs4, ht4, ho4⟩
       have hrow4 := (HROW2.out.keep (fun y cs hy => hy.below HB3.out hy.lt)).keep (fun y cs hy => hy.only ho4 (cur_no HCU3.out hy (by decide)))
       have HST := hide (show ∀ W, Below w4.heap.size w4 W → ∀ pq, Blk W w4.heap.size 68 #[.string (rK pq), .string (rV pq)] → StW w.heap.size K d x t c w4.heap.size (1 + p) T r T2 rp2 ds2 st2 (.slice A2 T2.pairs.length c2) w T2.pairs[0]? pq W from fun W hb pq hbx =>
         ⟨hs4.below hb, ht4.below hb, hs4.tree.move (fun z hz => hb.block z hz) (fun _ h => h), ht4.tree.move (fun z hz => hb.block z hz) (fun _ h => h), hrow4.keep fun y cs hy => hy.below hb hy.lt, fun g hg => (by
           obtain ⟨base, h1, h2⟩ := hrow4
           rcases h2 with ⟨h0, _⟩ | ⟨g', cap, cur, hv, _, hgk, _⟩
           · rw [h0] at hg; cases hg
           · rw [hv] at hg
             injection hg with hg
             exact hg ▸ Blk.lt (t := 68) hgk), Blk.below hc4 hb (Blk.lt hc4), hbx, hs4.size, Nat.le_trans HS2.out.size HCL.out, ((HB2.out.trans (HB3.out.mono HS2.out.size)).trans (ho4.to_below HS3.out.size fun y e => e ▸ Nat.le_trans HS2.out.size HCL.out)).trans (hb.mono hs4.size)⟩)
       unfold pairV
       clear hc4 hs4 ht4 ho4 hrow4)))
  obtain ⟨W5, hW5⟩ : ∃ W5, W5 = w4.alloc (.cells #[.string (rK T2.pairs[0]?), .string (rV T2.pairs[0]?)] 68) := ⟨_, rfl⟩
  have hst5 : StW w.heap.size K d x t c w4.heap.size (1 + p) T r T2 rp2 ds2 st2 (.slice A2 T2.pairs.length c2) w T2.pairs[0]? T2.pairs[0]? W5 := by
    rw [hW5]
    exact HST.out _ ((Below.refl _ _).alloc (Nat.le_refl _) _) _ (Blk.new _ _ _)
  rw [← hW5]
  obtain ⟨P, hP⟩ : ∃ P, P = w4.heap.size := ⟨_, rfl⟩
  rw [← hP] at hst5 ⊢
  obtain ⟨L, hL⟩ : ∃ L, L = T2.pairs.length := ⟨_, rfl⟩
  have HST5 := hide hst5
  have HLE := hide hL
  have hLb : L ≤ 150 := by have := HG2.out.pairs; omega
  rw [← hL]
  have HLB := hide hLb
  clear hst5 hW5 hP hL hLb HST HF HCU HWR HBE
  go_loopw [14, 16, 17] (fun n th bd wr => ∃ m : Nat, m ≤ L ∧ n = .int .i64 m ∧ th = .bool (T2.pairs[m]?.isSome) ∧ bd = .nilIface ∧ StW w.heap.size K d x t c P (1 + p) T r T2 rp2 ds2 st2 (.slice A2 T2.pairs.length c2) w T2.pairs[m]? T2.pairs[m]? wr) (fun n _ _ _ => L - (intOf n).toNat)
  case atStart => exact ⟨0, Nat.zero_le _, rfl, rfl, rfl, HST5.out⟩
  case round =>
    obtain ⟨m, hm, rfl, rfl, rfl, hst⟩ := hrel
    by_cases hlt : m < L
    · have hLB := HLB.out
      have hw1 : IntKind.i64.wrap ((m : Int) + 1) = (m : Int) + 1 := by rw [IntKind.wrap_i64]; omega
      have m0 : (0 : Int) ≤ (m : Int) := by omega
      have m1 : (m : Int) < (L : Int) := by omega
      have hml : m < T2.pairs.length := by have := HLE.out; omega
      obtain ⟨e1, e2, e3⟩ := optP_some hml
      obtain ⟨y, hy⟩ : ∃ y, y = T2.pairs[m] := ⟨_, rfl⟩
      rw [← hy] at e2 e3
      have hrc : ∃ g, A2 = some ⟨g, 0, none⟩ ∧ L ≤ c2 ∧ wr.cell? ⟨g, m * 2, none⟩ = some (.string y.1) ∧ wr.cell? ⟨g, m * 2 + 1, none⟩ = some (.string y.2) := by
        rcases hst.row.cells with ⟨_, h0⟩ | ⟨g, cc, e, f1, _, f3⟩
        · rw [h0] at hml; simp at hml
        · injection e with x1 x2 x3
          subst x3
          have := f3 m hml
          rw [← hy] at this
          exact ⟨g, x1, by have := HLE.out; omega, this⟩
      obtain ⟨ga, rfl, hcc, a1, a2⟩ := hrc
      have b1 : wr.cell? ⟨P, 0, none⟩ = some (.string y.1) := by rw [← e2]; exact cellOf hst.box 0 rfl
      have b2 : wr.cell? ⟨P, 1, none⟩ = some (.string y.2) := by rw [← e3]; exact cellOf hst.box 1 rfl
      have hst' := hst.below (Below.refl _ _).drew
      have HN := hide (sr_next hst'.hs hst'.ht hml hst'.cur HG2.out.tr HG2.out.pairs)
      have HSTD := hide hst'
      rw [e1]
      clear hst hst' hy e2 e3 e1 hml
      go_wp2
      go_region
      go_wp2_with (go_at_call 44; go_loud (
        refine HN.out.mono ?_; rintro e w6 ho
        obtain ⟨rfl, hst6⟩ := HSTD.out.next ho
        have g0 := cellOf hst6.box 0 rfl
        have g1 := cellOf hst6.box 1 rfl
        have z0 : w6.frozen? ⟨P, 0, none⟩ = false := hst6.box.frozen 0
        have z1 : w6.frozen? ⟨P, 1, none⟩ = false := hst6.box.frozen 1
        unfold pairV
        have HST6 := hide hst6
        clear hst6 ho))
      go_roundw
      case rel => exact ⟨m + 1, by omega, by go_num, rfl, rfl, HST6.out.put _⟩
      case measure => simp [intOf]; omega
    · have hmL : m = L := by omega
      have e1 := optP_none (l := T2.pairs) (n := m) (by have := HLE.out; omega)
      rw [e1]
      have hon := e1
      have HLO := hide (sr_lost hst.hs hst.ht hst.cur HG2.out.tr HG2.out.pairs (.inl e1))
      have hLL : ((L : Int) != (L : Int)) = false := by simp
      have hmm : ¬ (m : Int) < (L : Int) := by omega
      have hmi : (m : Int) = (L : Int) := by omega
      have HSTL := hide hst
      clear hst hon
      subst hmL
      go_wp2_with (first
        | (go_at_call 44; go_loud (
           refine HLO.out.mono ?_; rintro e w7 ⟨hb7, f, rfl, hf7⟩
           have hst7 := HSTL.out.below hb7
           have HTD := hide (fun W (hb : Below w7.heap.size w7 W) => told_fault f 11 _ W (Blk.below hf7 hb (Blk.lt hf7)) (HGL.out.below (hst7.below hb).low))
           have HST7 := hide hst7
           unfold pairV
           clear hb7 hf7 hst7))
        | (go_at_call 30; go_loud (
           refine (HTD.out _ ((Below.refl _ _).alloc (Nat.le_refl _) _)).mono ?_; rintro e w8 ⟨rfl, hb8⟩
           have hst8 := (HST7.out.below ((Below.refl _ _).alloc (Nat.le_refl _) _)).below hb8
           have HLS := hide (sr_last hst8.hs hst8.ht hst8.cur HG2.out.tr HG2.out.pairs)
           have HST8 := hide hst8
           clear hb8 hst8))
        | (go_at_call 45; go_loud (
           refine HLS.out.mono ?_; rintro e w9 ho
           obtain ⟨rfl, hst9⟩ := HST8.out.next ho
           have g0 := cellOf hst9.box 0 rfl
           have g1 := cellOf hst9.box 1 rfl
           have z0 : w9.frozen? ⟨P, 0, none⟩ = false := hst9.box.frozen 0
           have z1 : w9.frozen? ⟨P, 1, none⟩ = false := hst9.box.frozen 1
           unfold pairV
           have HST9 := hide hst9
           clear hst9 ho)))
      obtain ⟨W10, hW10⟩ : ∃ W10, W10 = (w9.setCell ⟨P, 0, none⟩ (.string (rK T2.pairs[T2.pairs.length - 1]?))).setCell ⟨P, 1, none⟩ (.string (rV T2.pairs[T2.pairs.length - 1]?)) := ⟨_, rfl⟩
      have hst10 := HST9.out.put T2.pairs[T2.pairs.length - 1]?
      rw [← hW10] at hst10 ⊢
      have hq0 : T2.pairs[T2.pairs.length - 1]? = backQ T2.pairs m := by
        unfold backQ
        rw [← HLE.out]
        split
        · rename_i h0
          exact List.getElem?_eq_none (by have := HLE.out; omega)
        · rfl
      rw [hq0] at hst10 ⊢
      have HST10 := hide hst10
      clear hst10 hW10 hq0 HST9 HST8 HST7 HLS HLO HTD HSTL
      go_loopw [14, 16, 17] (fun n th bd wr => ∃ i : Nat, i ≤ m ∧ n = .int .i64 i ∧ th = .bool ((backQ T2.pairs i).isSome) ∧ bd = .nilIface ∧ StW w.heap.size K d x t c P (1 + p) T r T2 rp2 ds2 st2 (.slice A2 T2.pairs.length c2) w (backQ T2.pairs i) (backQ T2.pairs i) wr) (fun n _ _ _ => (intOf n).toNat)
      case atStart => exact ⟨m, Nat.le_refl _, rfl, rfl, rfl, HST10.out⟩
      case round =>
        obtain ⟨i, hi, rfl, rfl, rfl, hst⟩ := hrel
        by_cases hi0 : i = 0
        · subst hi0
          have hz : (backQ T2.pairs 0).isSome = false := rfl
          rw [hz]
          have HSTL := hide hst
          clear hst hz
          have hA : ∀ j (hj : j < T2.pairs.length), ∃ g, A2 = some ⟨g, 0, none⟩ ∧ m ≤ c2 ∧ wr.cell? ⟨g, j * 2, none⟩ = some (.string T2.pairs[j].1) ∧ wr.cell? ⟨g, j * 2 + 1, none⟩ = some (.string T2.pairs[j].2) := fun j hj => by
            rcases HSTL.out.row.cells with ⟨_, h0⟩ | ⟨g, cc, e, f1, _, f3⟩
            · rw [h0] at hj; simp at hj
            · injection e with x1 x2 x3
              subst x3
              exact ⟨g, x1, by have := HLE.out; omega, f3 j hj⟩
          have HA := hide hA
          clear hA
          go_wp2
          go_loop [22] (fun at' => ∃ i : Nat, i ≤ place k T2.pairs ∧ at' = .int .i64 i) (fun at' => m - (intOf at').toNat)
          case atStart => exact ⟨0, Nat.zero_le _, rfl⟩
          case round =>
            obtain ⟨i, hi, rfl⟩ := hrel
            have hpl := place_le k T2.pairs
            have hLB := HLB.out
            have hle := HLE.out
            have hw1 : IntKind.i64.wrap ((i : Int) + 1) = (i : Int) + 1 := by rw [IntKind.wrap_i64]; omega
            by_cases hlt : i < m
            · have m0 : (0 : Int) ≤ (i : Int) := by omega
              have m1 : (i : Int) < (m : Int) := by omega
              obtain ⟨ga, rfl, hcc, a1, a2⟩ := HA.out i (by omega)
              have hsl := place_lt k T2.pairs (pairs_rise HG2.out.tr.tw) i (by omega)
              obtain ⟨y, hy⟩ : ∃ y, y = T2.pairs[i]'(by omega) := ⟨_, rfl⟩
              rw [← hy] at a1 a2 hsl
              clear hy
              by_cases hat : i < place k T2.pairs
              · have hbl : Op.bytesLess y.1.toList k.toList = true := by
                  show slt y.1 k = true
                  rw [hsl]; simp [hat]
                clear hsl
                go_wp2
                go_round
                case rel => exact ⟨i + 1, by omega, by go_num⟩
                case measure => simp [intOf]; omega
              · have hbl : Op.bytesLess y.1.toList k.toList = false := by
                  show slt y.1 k = false
                  rw [hsl]; simp [hat]
                clear hsl
                have hpi : place k T2.pairs = i := by omega
                have hsk := sr_seek HSTL.out.hs HSTL.out.ht HSTL.out.cur HG2.out.tr HG2.out.pairs k
                rw [hpi] at hsk
                have hil : i < T2.pairs.length := by omega
                obtain ⟨e1, e2, e3⟩ := optP_some hil
                obtain ⟨qi, hqi⟩ : ∃ qi, qi = T2.pairs[i]? := ⟨_, rfl⟩
                rw [← hqi] at hsk e1 e2 e3
                have hei : ∀ h : i < T2.pairs.length, rK qi = T2.pairs[i].1 ∧ rV qi = T2.pairs[i].2 := fun _ => ⟨e2, e3⟩
                have HSK := hide hsk
                have HQI := hide hqi
                have HEI := hide hei
                have HIL := hide hil
                have hm1 : 1 + p ≤ 1000000000 := by have := HPL.out; omega
                clear hsk hpi hpl hat e2 e3 hqi hle hei hil
                go_wp2_with (go_at_call 47; go_loud (
                   refine HSK.out.mono ?_; rintro e w11 ho
                   obtain ⟨rfl, hst11⟩ := HSTL.out.next ho
                   have g0 := cellOf hst11.box 0 rfl
                   have g1 := cellOf hst11.box 1 rfl
                   have z0 : w11.frozen? ⟨P, 0, none⟩ = false := hst11.box.frozen 0
                   have z1 : w11.frozen? ⟨P, 1, none⟩ = false := hst11.box.frozen 1
                   unfold pairV
                   have HST11 := hide hst11
                   clear hst11 ho))
                obtain ⟨W12, hW12⟩ : ∃ W12, W12 = (w11.setCell ⟨P, 0, none⟩ (.string (rK qi))).setCell ⟨P, 1, none⟩ (.string (rV qi)) := ⟨_, rfl⟩
                have hst12 := HST11.out.put qi
                rw [← hW12] at hst12 ⊢
                clear hW12
                obtain ⟨g, hgg, _, a1, a2⟩ := hst12.rowAt HLE.out i HIL.out
                obtain rfl : ga = g := by injection hgg with hgg; injection hgg
                rw [← (HEI.out HIL.out).1] at a1
                rw [← (HEI.out HIL.out).2] at a2
                have b1 := cellOf hst12.box 0 rfl
                have b2 := cellOf hst12.box 1 rfl
                have hst12d := hst12.below (Below.refl _ _).drew
                have HDL := hide (sr_deleteO ⟨#[110, 111, 110, 101]⟩ hst12d.hs hst12d.ht HG2.out.tr HG2.out.pairs none_ok hm1)
                have HNX := hide (fun (h : i + 1 ≤ m) => sr_next (n := i) hst12d.hs hst12d.ht HIL.out (by have := hst12d.cur; rwa [HQI.out] at this) HG2.out.tr HG2.out.pairs)
                have HSTD := hide hst12d
                clear hst12 hst12d hgg
                by_cases hB : i + 1 < m
                · have hB' : (i : Int) + 1 < (m : Int) := by omega
                  have hB0 : (0 : Int) ≤ (i : Int) + 1 := by omega
                  have hil1 : i + 1 < T2.pairs.length := by have := HLE.out; omega
                  obtain ⟨e4, e5, e6⟩ := optP_some hil1
                  have hnx := HNX.out (Nat.le_of_lt hB)
                  obtain ⟨qj, hqj⟩ : ∃ qj, qj = T2.pairs[i + 1]? := ⟨_, rfl⟩
                  rw [← hqj] at hnx e4 e5 e6
                  have hej : ∀ h : i + 1 < T2.pairs.length, rK qj = T2.pairs[i + 1].1 ∧ rV qj = T2.pairs[i + 1].2 := fun _ => ⟨e5, e6⟩
                  have HNY := hide hnx
                  have HQJ := hide hqj
                  have HEJ := hide hej
                  have HIL1 := hide hil1
                  clear hnx e5 e6 hqj hej hil1
                  go_region
                  go_wp2_with (first
                    | (go_at_call 44; go_loud (
                       refine HNY.out.mono ?_; rintro e w13 ho
                       obtain ⟨rfl, hst13⟩ := HSTD.out.next ho
                       have HPV := hide (fun W (hb : Below w13.heap.size w13 W) => sr_prev (n := i + 1) (hst13.below hb).hs (hst13.below hb).ht HIL1.out (by have := (hst13.below hb).cur; rwa [HQJ.out] at this) HG2.out.tr HG2.out.pairs)
                       have hbq : (if i + 1 = 0 then none else T2.pairs[i + 1 - 1]?) = qi := by rw [if_neg (by omega), HQI.out]; rfl
                       rw [hbq] at HPV
                       have HST13 := hide hst13
                       unfold pairV
                       clear ho hst13 hbq))
                    | (go_at_call 46; go_loud (
                       have hba : Below w13.heap.size w13 (w13.alloc (.cells #[.string (rK qj), .string (rV qj)] 68)) := (Below.refl _ _).alloc (Nat.le_refl _) _
                       refine (HPV.out _ hba).mono ?_; rintro e w14 ho
                       have hqb : Blk w14 w13.heap.size 68 #[.string (rK qj), .string (rV qj)] := (Blk.new w13 _ _).only ho.2.2.2.2 (cur_no (HST13.out.below hba).cur (Blk.new w13 _ _) (by decide))
                       obtain ⟨rfl, hst14⟩ := (HST13.out.below hba).next ho
                       have HST14 := hide hst14
                       have HQB := hide hqb
                       unfold pairV
                       clear ho hst14 hqb hba)))
                  obtain ⟨W15, hW15⟩ : ∃ W15, W15 = w14.alloc (.cells #[.string (rK qi), .string (rV qi)] 68) := ⟨_, rfl⟩
                  have hba : Below w14.heap.size w14 W15 := by rw [hW15]; exact (Below.refl _ _).alloc (Nat.le_refl _) _
                  have hrb : Blk W15 w14.heap.size 68 #[.string (rK qi), .string (rV qi)] := by rw [hW15]; exact Blk.new _ _ _
                  rw [← hW15]
                  have hst15 := HST14.out.below hba
                  have hqb := HQB.out.below hba HQB.out.lt
                  obtain ⟨g, hgg, _, a1, a2⟩ := hst15.rowAt HLE.out i HIL.out
                  obtain rfl : ga = g := by injection hgg with hgg; injection hgg
                  obtain ⟨g, hgg, _, a3, a4⟩ := hst15.rowAt HLE.out (i + 1) HIL1.out
                  obtain rfl : ga = g := by injection hgg with hgg; injection hgg
                  rw [← (HEI.out HIL.out).1] at a1
                  rw [← (HEI.out HIL.out).2] at a2
                  rw [← (HEJ.out HIL1.out).1] at a3
                  rw [← (HEJ.out HIL1.out).2] at a4
                  have b1 := cellOf hrb 0 rfl
                  have b2 := cellOf hrb 1 rfl
                  have b3 := cellOf hqb 0 rfl
                  have b4 := cellOf hqb 1 rfl
                  have hst15d := hst15.below (Below.refl _ _).drew
                  have HDL := hide (sr_deleteO ⟨#[110, 111, 110, 101]⟩ hst15d.hs hst15d.ht HG2.out.tr HG2.out.pairs none_ok hm1)
                  have HSTD := hide hst15d
                  clear hW15 hba hrb hst15 hqb hst15d hgg
                  go_region
                  go_wp2_with (first
                    | (go_at_call 23; go_loud (
                       refine HDL.out.mono ?_; rintro e w13 ⟨rfl, hs13, ⟨rp13, ds13, ht13⟩, ho13⟩
                       have hc13 := Blk.only HSTD.out.cur ho13 (fun e => e.elim (Blk.ne_ HSTD.out.cur HSTD.out.ht.tx (by decide)) (Blk.ne_ HSTD.out.cur HSTD.out.hs.db (by decide)))
                       have hgd := HG2.out.del21 ⟨#[110, 111, 110, 101]⟩
                       have HLP := hide (sr_lostp hs13 ht13 hc13 hgd.1.tr hgd.1.pairs (lost_or _ _))
                       have HB13 := hide (show Below w.heap.size w w13 from HSTD.out.low.trans (ho13.to_below HSTD.out.hs.size fun y e => e.elim (fun e => e ▸ HSTD.out.ht.nt) (fun e => e ▸ HSTD.out.hs.nx)))
                       clear hs13 ht13 ho13 hc13 hgd))
                    | (go_at_call 46; go_loud (
                       refine HLP.out.mono ?_; rintro e w14 ⟨hb14, f14, rfl, hf14⟩
                       have HB14 := hide (show Below w.heap.size w w14 from HB13.out.trans (hb14.mono HB13.out.size))
                       have HTD2 := hide (fun W (hb : Below w14.heap.size w14 W) => told_fault f14 11 _ W (Blk.below hf14 hb (Blk.lt hf14)) (HGL.out.below (HB14.out.trans (hb.mono HB14.out.size))))
                       unfold pairV
                       clear hb14 hf14))
                    | (go_at_call 30; go_loud (
                       refine (HTD2.out _ ((Below.refl _ _).alloc (Nat.le_refl _) _)).mono ?_; rintro e w15 ⟨rfl, hb15⟩
                       have HB15 := hide (show Below w.heap.size w w15 from HB14.out.trans (((((Below.refl _ _).alloc (Nat.le_refl _) _).trans (hb15.mono (by simp)))).mono HB14.out.size))
                       clear hb15)))
                  go_ret
                  exact ⟨rfl, HB15.out⟩
                · have hB' : ¬ (i : Int) + 1 < (m : Int) := by omega
                  go_region
                  go_wp2_with (first
                    | (go_at_call 23; go_loud (
                       refine HDL.out.mono ?_; rintro e w13 ⟨rfl, hs13, ⟨rp13, ds13, ht13⟩, ho13⟩
                       have hc13 := Blk.only HSTD.out.cur ho13 (fun e => e.elim (Blk.ne_ HSTD.out.cur HSTD.out.ht.tx (by decide)) (Blk.ne_ HSTD.out.cur HSTD.out.hs.db (by decide)))
                       have hgd := HG2.out.del21 ⟨#[110, 111, 110, 101]⟩
                       have HLP := hide (sr_lostp hs13 ht13 hc13 hgd.1.tr hgd.1.pairs (lost_or _ _))
                       have HB13 := hide (show Below w.heap.size w w13 from HSTD.out.low.trans (ho13.to_below HSTD.out.hs.size fun y e => e.elim (fun e => e ▸ HSTD.out.ht.nt) (fun e => e ▸ HSTD.out.hs.nx)))
                       clear hs13 ht13 ho13 hc13 hgd))
                    | (go_at_call 46; go_loud (
                       refine HLP.out.mono ?_; rintro e w14 ⟨hb14, f14, rfl, hf14⟩
                       have HB14 := hide (show Below w.heap.size w w14 from HB13.out.trans (hb14.mono HB13.out.size))
                       have HTD2 := hide (fun W (hb : Below w14.heap.size w14 W) => told_fault f14 11 _ W (Blk.below hf14 hb (Blk.lt hf14)) (HGL.out.below (HB14.out.trans (hb.mono HB14.out.size))))
                       unfold pairV
                       clear hb14 hf14))
                    | (go_at_call 30; go_loud (
                       refine (HTD2.out _ ((Below.refl _ _).alloc (Nat.le_refl _) _)).mono ?_; rintro e w15 ⟨rfl, hb15⟩
                       have HB15 := hide (show Below w.heap.size w w15 from HB14.out.trans (((((Below.refl _ _).alloc (Nat.le_refl _) _).trans (hb15.mono (by simp)))).mono HB14.out.size))
                       clear hb15)))
                  go_ret
                  exact ⟨rfl, HB15.out⟩
            · have hpi : place k T2.pairs = m := by omega
              have hsk := sr_seek HSTL.out.hs HSTL.out.ht HSTL.out.cur HG2.out.tr HG2.out.pairs k
              rw [hpi] at hsk
              have e1 := optP_none (l := T2.pairs) (n := m) (by omega)
              obtain ⟨qi, hqi⟩ : ∃ qi, qi = T2.pairs[m]? := ⟨_, rfl⟩
              rw [← hqi] at hsk e1
              have HSK := hide hsk
              have hm1 : 1 + p ≤ 1000000000 := by have := HPL.out; omega
              have him : i = m := by omega
              clear hsk hpi hpl hle hqi
              subst him
              have m1 : ¬ (i : Int) < (i : Int) := by omega
              have m2 : ¬ (i : Int) + 1 < (i : Int) := by omega
              go_wp2_with (go_at_call 47; go_loud (
                 refine HSK.out.mono ?_; rintro e w11 ho
                 obtain ⟨rfl, hst11⟩ := HSTL.out.next ho
                 have g0 := cellOf hst11.box 0 rfl
                 have g1 := cellOf hst11.box 1 rfl
                 have z0 : w11.frozen? ⟨P, 0, none⟩ = false := hst11.box.frozen 0
                 have z1 : w11.frozen? ⟨P, 1, none⟩ = false := hst11.box.frozen 1
                 unfold pairV
                 have HST11 := hide hst11
                 clear hst11 ho))
              obtain ⟨W12, hW12⟩ : ∃ W12, W12 = (w11.setCell ⟨P, 0, none⟩ (.string (rK qi))).setCell ⟨P, 1, none⟩ (.string (rV qi)) := ⟨_, rfl⟩
              have hst12 := HST11.out.put qi
              rw [← hW12] at hst12 ⊢
              clear hW12
              have hst12d := hst12.below (Below.refl _ _).drew
              have HDL := hide (sr_deleteO ⟨#[110, 111, 110, 101]⟩ hst12d.hs hst12d.ht HG2.out.tr HG2.out.pairs none_ok hm1)
              have HSTD := hide hst12d
              clear hst12 hst12d
              go_region
              go_wp2_with (first
                | (go_at_call 23; go_loud (
                   refine HDL.out.mono ?_; rintro e w13 ⟨rfl, hs13, ⟨rp13, ds13, ht13⟩, ho13⟩
                   have hc13 := Blk.only HSTD.out.cur ho13 (fun e => e.elim (Blk.ne_ HSTD.out.cur HSTD.out.ht.tx (by decide)) (Blk.ne_ HSTD.out.cur HSTD.out.hs.db (by decide)))
                   have hgd := HG2.out.del21 ⟨#[110, 111, 110, 101]⟩
                   have HLP := hide (sr_lostp hs13 ht13 hc13 hgd.1.tr hgd.1.pairs (lost_or _ _))
                   have HB13 := hide (show Below w.heap.size w w13 from HSTD.out.low.trans (ho13.to_below HSTD.out.hs.size fun y e => e.elim (fun e => e ▸ HSTD.out.ht.nt) (fun e => e ▸ HSTD.out.hs.nx)))
                   clear hs13 ht13 ho13 hc13 hgd))
                | (go_at_call 46; go_loud (
                   refine HLP.out.mono ?_; rintro e w14 ⟨hb14, f14, rfl, hf14⟩
                   have HB14 := hide (show Below w.heap.size w w14 from HB13.out.trans (hb14.mono HB13.out.size))
                   have HTD2 := hide (fun W (hb : Below w14.heap.size w14 W) => told_fault f14 11 _ W (Blk.below hf14 hb (Blk.lt hf14)) (HGL.out.below (HB14.out.trans (hb.mono HB14.out.size))))
                   unfold pairV
                   clear hb14 hf14))
                | (go_at_call 30; go_loud (
                   refine (HTD2.out _ ((Below.refl _ _).alloc (Nat.le_refl _) _)).mono ?_; rintro e w15 ⟨rfl, hb15⟩
                   have HB15 := hide (show Below w.heap.size w w15 from HB14.out.trans (((((Below.refl _ _).alloc (Nat.le_refl _) _).trans (hb15.mono (by simp)))).mono HB14.out.size))
                   clear hb15)))
              go_ret
              exact ⟨rfl, HB15.out⟩
        · obtain ⟨j, rfl⟩ : ∃ j, i = j + 1 := ⟨i - 1, by omega⟩
          have hLB := HLB.out
          have hw1 : IntKind.i64.wrap (((j + 1 : Nat) : Int) - 1) = (j : Int) := by rw [IntKind.wrap_i64]; omega
          have hw2 : (0 : Int) < ((j + 1 : Nat) : Int) := by omega
          have m0 : (0 : Int) ≤ (j : Int) := by omega
          have m1 : (j : Int) < (m : Int) := by omega
          have hml : j < T2.pairs.length := by have := HLE.out; omega
          have hbq : backQ T2.pairs (j + 1) = T2.pairs[j]? := rfl
          rw [hbq] at hst ⊢
          obtain ⟨e1, e2, e3⟩ := optP_some hml
          obtain ⟨y, hy⟩ : ∃ y, y = T2.pairs[j] := ⟨_, rfl⟩
          rw [← hy] at e2 e3
          have hrc : ∃ g, A2 = some ⟨g, 0, none⟩ ∧ m ≤ c2 ∧ wr.cell? ⟨g, j * 2, none⟩ = some (.string y.1) ∧ wr.cell? ⟨g, j * 2 + 1, none⟩ = some (.string y.2) := by
            rcases hst.row.cells with ⟨_, h0⟩ | ⟨g, cc, e, f1, _, f3⟩
            · rw [h0] at hml; simp at hml
            · injection e with x1 x2 x3
              subst x3
              have := f3 j hml
              rw [← hy] at this
              exact ⟨g, x1, by have := HLE.out; omega, this⟩
          obtain ⟨ga, rfl, hcc, a1, a2⟩ := hrc
          have b1 : wr.cell? ⟨P, 0, none⟩ = some (.string y.1) := by rw [← e2]; exact cellOf hst.box 0 rfl
          have b2 : wr.cell? ⟨P, 1, none⟩ = some (.string y.2) := by rw [← e3]; exact cellOf hst.box 1 rfl
          have hst' := hst.below (Below.refl _ _).drew
          have HN := hide (sr_prev hst'.hs hst'.ht hml hst'.cur HG2.out.tr HG2.out.pairs)
          have HSTD := hide hst'
          rw [e1]
          clear hst hst' hy e2 e3 e1 hml hbq
          go_wp2
          go_region
          go_wp2_with (go_at_call 46; go_loud (
            refine HN.out.mono ?_; rintro e w6 ho
            obtain ⟨rfl, hst6⟩ := HSTD.out.next ho
            have g0 := cellOf hst6.box 0 rfl
            have g1 := cellOf hst6.box 1 rfl
            have z0 : w6.frozen? ⟨P, 0, none⟩ = false := hst6.box.frozen 0
            have z1 : w6.frozen? ⟨P, 1, none⟩ = false := hst6.box.frozen 1
            unfold pairV
            have HST6 := hide hst6
            clear hst6 ho))
          go_roundw
          case rel => exact ⟨j, by omega, by go_num, rfl, rfl, HST6.out.put _⟩
          case measure => simp [intOf]
end Go.Proofs.YtemondlgcmpbbaaGreatDoor
