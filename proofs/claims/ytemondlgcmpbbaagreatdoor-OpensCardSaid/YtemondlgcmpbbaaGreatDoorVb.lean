/- Walks: volume.heads. -/
import Derived.Test.YtemondlgcmpbbaaGreatDoorHb
import Derived.Test.YtemondlgcmpbbaaGreatDoorVa
import Derived.BigRegion
namespace Go.Proofs.YtemondlgcmpbbaaGreatDoor
open Go.RowKit

theorem parse_any (slot n c : Nat) (A : Option Addr) (bytes : List UInt8) (w : World) (h : SlU w A n c bytes) (hn : 32 ≤ n) (hc : 33 ≤ c) (hn2 : n ≤ 1000) (hc2 : c ≤ 1000) :
    Calls Tryz.prog 171 #[.int .i64 slot, .slice A n c] w fun e w' => e = .returned (.tuple #[.agg (headV slot (pGen bytes) (pBlk bytes) (pRgen bytes)), .bool (pOk bytes)]) ∧ Below w.heap.size w w' := by
  cases hs : sealedN (bytes.take 32) with
  | false =>
    have : pOk bytes = false := by unfold pOk; rw [hs]; rfl
    rw [this]
    exact parse_s slot n c A bytes w h hn hc hn2 hc2 hs
  | true =>
    by_cases hm : pMagic bytes = 827479123
    · by_cases hg : 0 < pGen bytes
      · by_cases hg2 : pGen bytes < 1073741824
        · by_cases hb : 0 < pBlk bytes
          · have : pOk bytes = true := by unfold pOk; rw [hs, hm]; simp [hg, hg2, hb]
            rw [this]
            exact parse_b slot n c A bytes w h hn hc hn2 hc2 hs hm hg hg2 hb
          · by_cases hr : pRgen bytes = 0
            · have : pOk bytes = true := by unfold pOk; rw [hs, hm]; simp [hg, hg2, hr]
              rw [this]
              exact parse_r slot n c A bytes w h hn hc hn2 hc2 hs hm hg hg2 hb hr
            · have : pOk bytes = false := by unfold pOk; rw [hs, hm]; simp [hg, hg2, hr]; omega
              rw [this]
              exact parse_x slot n c A bytes w h hn hc hn2 hc2 hs hm hg hg2 hb hr
        · have : pOk bytes = false := by unfold pOk; rw [hs, hm]; simp [hg2]
          rw [this]
          exact parse_h slot n c A bytes w h hn hc hn2 hc2 hs hm hg hg2
      · have : pOk bytes = false := by unfold pOk; rw [hs, hm]; simp [hg]
        rw [this]
        exact parse_g slot n c A bytes w h hn hc hn2 hc2 hs hm hg
    · have : pOk bytes = false := by unfold pOk; rw [hs]; simp [hm]
      rw [this]
      exact parse_m slot n c A bytes w h hn hc hn2 hc2 hs hm

/-- No error will be told. -/
def Nums.calm (m : Nums) : Prop := m.off < 0 ∧ m.bto ≤ m.calls
theorem Nums.calm.bad {m : Nums} (h : m.calm) : m.bad = false := by
  unfold Nums.bad
  rw [Bool.or_eq_false_iff]
  exact ⟨by simp; intro h1; have := h.1; omega, by simp; intro _; exact h.2⟩
theorem Nums.calm.tick {m : Nums} (h : m.calm) : m.tick.calm := ⟨h.1, show m.bto ≤ m.calls + 1 by have := h.2; omega⟩
theorem Nums.calm.wrote {m : Nums} (h : m.calm) : m.wrote.calm := h.tick
theorem Nums.calm.told {m : Nums} (h : m.calm) : m.tick.told = m.told := by unfold Nums.tick; rw [h.bad]; rfl

structure Hd where
  slot : Nat
  gen : Nat
  blk : Nat
  rgen : Nat
def Hd.cells (h : Hd) : Array Value := headV h.slot h.gen h.blk h.rgen
def hcells (l : List Hd) : List Value := l.flatMap fun h => h.cells.toList
theorem hcells_length (l : List Hd) : (hcells l).length = l.length * 4 := by
  induction l with
  | nil => rfl
  | cons h l ih => simp only [hcells, List.flatMap_cons, List.length_append, List.length_cons] at *; rw [ih]; simp [Hd.cells, headV]; omega
def headOf (s : Nat) (c : List UInt8) : Hd := ⟨s, pGen c, pBlk c, pRgen c⟩
/-- The heads in the first k slots, in order. -/
def headUp (c : Nat → List UInt8) : Nat → List Hd
  | 0 => []
  | k + 1 => headUp c k ++ if pOk (c k) then [headOf k (c k)] else []
theorem headUp_le (c : Nat → List UInt8) : ∀ k, (headUp c k).length ≤ k
  | 0 => Nat.le_refl _
  | k + 1 => by
    have := headUp_le c k
    unfold headUp
    rw [List.length_append]
    split
    · simp only [List.length_cons, List.length_nil]; omega
    · simp only [List.length_nil]; omega
/-- The heads, the newest first. -/
def newest : List Hd → List Hd
  | [h0, h1] => if h0.gen < h1.gen then [h1, h0] else [h0, h1]
  | l => l
def headsN (c : Nat → List UInt8) : List Hd := newest (headUp c 2)
def ticks (m : Nums) : Nat → Nums
  | 0 => m
  | k + 1 => (ticks m k).tick
theorem ticks_calm {m : Nums} (h : m.calm) : ∀ k, (ticks m k).calm
  | 0 => h
  | k + 1 => (ticks_calm h k).tick

theorem info_head : (Tryz.prog.info? 149).map (fun i => (i.zero, i.size, i.bytes)) = some (some (.agg #[.int .i64 0, .int .u32 0, .int .i64 0, .int .u32 0]), 4, 32) := by kernel_rfl

set_option maxRecDepth 100000 in
set_option maxHeartbeats 2000000 in
theorem heads_up (K b g base n : Nat) (cv : Value) (m : Nums) (bytes : List UInt8) (cache : List (Nat × List UInt8)) (w : World) (h : Dk w K b g base n cv m bytes cache) (hc : m.calm) (hn : 8 ≤ n) (hK : K + 2 < edge) :
    Calls Tryz.prog 143 #[vol b] w fun e w' => ∃ v, e = .returned v ∧ w'.ownsRow w.heap.size 149 4 v (headsN (dread bytes cache)).length (hcells (headsN (dread bytes cache))) ∧ Dk w' (K + 2) b g base n cv (ticks m 2) bytes cache ∧ Only (fun x => x = b) w w' := by
  have H := hide h
  have HC := hide hc
  have HL0 : Hid (∀ i, i < 2 → (dread bytes cache i).length = 128) := fun i hi => dread_length bytes cache i n (by omega) h.len fun x hx => (h.ok x hx).2
  obtain ⟨i0, hi0, hz0, hz1, hz2⟩ := info_parts info_head
  have HI0 := hide hi0
  have HZ0 := hide hz0
  have HZ1 := hide hz1
  have HZ2 := hide hz2
  have hbl : b < w.heap.size := h.at_.lt
  clear h hc hi0 hz0 hz1 hz2
  unfold vol
  go_enter Tryz.func143, Tryz.ntmps143
  go_wp2
  go_loopw [3, 7] (fun s i wr => ∃ k : Nat, k ≤ 2 ∧ i = .int .i64 k ∧ wr.ownsRow w.heap.size 149 4 s (headUp (dread bytes cache) k).length (hcells (headUp (dread bytes cache) k)) ∧ Dk wr (K + k) b g base n cv (ticks m k) bytes cache ∧ Only (fun x => x = b) w wr ∧ Blk wr w.heap.size 147 #[.iface 23 (.pointer (some ⟨b, 0, none⟩))]) (fun _ i _ => 2 - (intOf i).toNat)
  case atStart =>
    refine ⟨0, Nat.zero_le _, rfl, World.ownsRow_nil _ _ _ _, H.out.below ((Below.refl _ _).alloc (Nat.le_refl _) _), (Only.refl _ _).alloc _, Blk.new _ _ _⟩
  case round =>
    obtain ⟨k, hk, rfl, hown, hdk, ho, hv⟩ := hrel
    obtain ⟨A, c, rfl, hlc, hcm, hrow, _⟩ := ownN_form hown
    have hle := headUp_le (dread bytes cache) k
    have hv0 : wr.cell? ⟨w.heap.size, 0, none⟩ = some (.iface 23 (.pointer (some ⟨b, 0, none⟩))) := cellOf hv 0 rfl
    have HOWN := hide hown
    have HDK := hide hdk
    have HO := hide ho
    have HV := hide hv
    have hsz : w.heap.size < wr.heap.size := hv.lt
    by_cases hlt : k < 2
    · have HLK := hide (HL0.out k hlt)
      have HR := hide (vread_any (K + k) b g base n k cv (ticks m k) bytes cache wr hdk (ticks_calm HC.out k).bad (by omega) (by omega))
      unfold vol at HR
      have k1 : (0 : Int) ≤ k := by omega
      have k2 : (k : Int) < 2 := by omega
      clear hown hdk ho hv
      cases hp : pOk (dread bytes cache k) with
      | false =>
        have HE : Hid (headUp (dread bytes cache) (k + 1) = headUp (dread bytes cache) k) := by show _ ++ _ = _; rw [hp]; simp
        have HPP := hide hp
        clear hp
        go_wp2_with (first
          | (go_at_call 172; refine HR.out.mono ?_; rintro e w1 ⟨g', rfl, hd1, hg1, hz1, ho1⟩
             have HP := hide (parse_any k 128 128 (some ⟨g', 0, none⟩) (dread bytes cache k) w1 (SlU.whole hg1 HLK.out (by omega)) (by omega) (by omega) (by omega) (by omega))
             rw [HPP.out] at HP
             unfold headV at HP
             have HD1 := hide hd1
             have HG1 := hide hg1
             have HO1 := hide ho1
             clear hd1 hg1 ho1)
          | (go_at_call 171; refine HP.out.mono ?_; rintro e w2 ⟨rfl, hb2⟩; have HB2 := hide hb2; clear hb2))
        go_roundw
        case rel =>
          have h12 := HO1.out.below HB2.out
          refine ⟨k + 1, by omega, by go_num, ?_, (HD1.out.below HB2.out).below ((Below.refl _ _).alloc (Nat.le_refl _) _), (HO.out.trans h12).alloc _, ((HV.out.only h12 (by omega))).alloc _⟩
          rw [HE.out]
          exact ownN_below (ownN_below (ownN_only HOWN.out HO1.out (disk_ne HDK.out.at_ (by decide))) HB2.out) ((Below.refl _ _).alloc (Nat.le_refl _) _)
        case measure => simp [intOf]; omega
      | true =>
        have HE : Hid (headUp (dread bytes cache) (k + 1) = headUp (dread bytes cache) k ++ [headOf k (dread bytes cache k)]) := by show _ ++ _ = _; rw [hp]; simp
        have HPP := hide hp
        clear hp
        go_wp2_with (first
          | (go_at_call 172; refine HR.out.mono ?_; rintro e w1 ⟨g', rfl, hd1, hg1, hz1, ho1⟩
             have HP := hide (parse_any k 128 128 (some ⟨g', 0, none⟩) (dread bytes cache k) w1 (SlU.whole hg1 HLK.out (by omega)) (by omega) (by omega) (by omega) (by omega))
             rw [HPP.out] at HP
             unfold headV at HP
             have HD1 := hide hd1
             have HG1 := hide hg1
             have HO1 := hide ho1
             have HOW1 := hide (ownN_only HOWN.out HO1.out (disk_ne HDK.out.at_ (by decide)))
             clear hd1 hg1 ho1)
          | (go_at_call 171; refine HP.out.mono ?_; rintro e w2 ⟨rfl, hb2⟩; have HB2 := hide hb2; have HOW2 := hide (ownN_below HOW1.out hb2); clear hb2)
          | (at_builtin
             refine wpList_append_any _ rfl (.tmp 19) (.tmp 21) 227 rfl w.heap.size 149 i0 _ 4 32 Tryz.underlying227 HI0.out HZ0.out HZ1.out HZ2.out rfl (by decide) _ _ _ rfl ((HOW2.out.alloc _).alloc _) (w2.heap.size + 2) (some ⟨w2.heap.size + 1, 0, none⟩) 1 1 (headOf k (dread bytes cache k)).cells.toList rfl ⟨rfl, fun _ => ⟨_, rfl, Nat.lt_succ_self _, fun j u hu => by rw [Addr.add_lit]; exact (Blk.new2 w2 _ 149 (headOf k (dread bytes cache k)).cells).range (cur := (headOf k (dread bytes cache k)).cells.toList) (o := 0) rfl j u hu⟩⟩ (headV_one _ _ _ _) (by unfold maxLen; omega) (by omega) (by have := HB2.out.size; have := HO1.out.size; simp only [World.size_alloc]; omega) ?_
             intro v3 w3 hown3 hgr3 hat3
             have HOW3 := hide hown3
             have HGR3 := hide hgr3
             have HAT3 := hide hat3
             clear hown3 hgr3 hat3))
        go_roundw
        case rel =>
          have h12 := HO1.out.below HB2.out
          have hbel3 : Below w2.heap.size w2 ((w2.alloc (.cells (headOf k (dread bytes cache k)).cells 149)).alloc (.cells (headOf k (dread bytes cache k)).cells 149)) := ((Below.refl _ _).alloc (Nat.le_refl _) _).alloc (by simp) _
          have hd2 := HD1.out.below HB2.out
          have ho3 : Only (fun x => some x = (Value.slice A (headUp (dread bytes cache) k).length c).ownBlock) w2 w3 := Only.grown (Only.of_below hbel3) HGR3.out fun g' e => .inl e.symm
          have hv2 := HV.out.only h12 (by omega)
          refine ⟨k + 1, by omega, by go_num, ?_, hd2.only ho3 ?_, ?_, hv2.only ho3 (fun e => own_blk_ne HOW2.out hv2 (by decide) e.symm)⟩
          · rw [HE.out, List.length_append]
            simp only [hcells, List.flatMap_append, List.flatMap_cons, List.flatMap_nil, List.append_nil]
            exact HOW3.out
          · intro x hx e
            rcases hx with rfl | rfl | hx
            · exact own_blk_ne HOW2.out hd2.at_ (by decide) e.symm
            · exact own_blk_ne HOW2.out hd2.blk (by decide) e.symm
            · exact own_own_ne HOW2.out hd2.own (by decide) (e.symm.trans hx) (by rw [← e]; simp)
          · exact Only.trans' (HO.out.trans h12) ho3 fun x hx e => by have := (ownN_lt HOWN.out e.symm).1; omega
        case measure => simp [intOf]; omega
    · obtain rfl : k = 2 := by omega
      clear hown hdk ho hv
      obtain ⟨l, hl⟩ : ∃ l, l = headUp (dread bytes cache) 2 := ⟨_, rfl⟩
      rw [← hl] at HOWN hrow hle hlc ⊢
      have hh : headsN (dread bytes cache) = newest l := by rw [hl]; rfl
      have HH := hide hh
      have HLL := hide hl
      clear hh hl
      match l, hle with
      | [], _ =>
        have HH' : Hid (headsN (dread bytes cache) = []) := HH.out
        go_wp2
        go_quiet (fail)
        all_goals go_wp2
        all_goals go_ret
        all_goals exact ⟨_, rfl, by rw [HH'.out]; exact ownN_below HOWN.out (below_drewN (Below.refl _ _) _), HDK.out.below (below_drewN (Below.refl _ _) _), HO.out.drewN _⟩
      | [h0], _ =>
        have HH' : Hid (headsN (dread bytes cache) = [h0]) := HH.out
        go_wp2
        go_quiet (fail)
        all_goals go_wp2
        all_goals go_ret
        all_goals exact ⟨_, rfl, by rw [HH'.out]; exact ownN_below HOWN.out (below_drewN (Below.refl _ _) _), HDK.out.below (below_drewN (Below.refl _ _) _), HO.out.drewN _⟩
      | [h0, h1], _ =>
        obtain ⟨g', cur, rfl, hcur, htk, hcz, hbg⟩ : ∃ g' cur, A = some ⟨g', 0, none⟩ ∧ Blk wr g' 149 cur ∧ cur.toList.take 8 = hcells [h0, h1] ∧ cur.size = c * 4 ∧ w.heap.size ≤ g' := by
          cases A with
          | none => obtain ⟨_, _, hv, _, _, _, hno⟩ := ownN_form HOWN.out; have := (hno rfl).1; simp at this
          | some a =>
            obtain ⟨hbg, _, e, cur, hb, hz, ht⟩ := hrow a.block rfl
            exact ⟨a.block, cur, e, hb, ht, hz, hbg⟩
        have cell : ∀ j v, (hcells [h0, h1])[j]? = some v → wr.cell? ⟨g', j, none⟩ = some v := fun j v hv => by
          rw [hcur.cell, ← Array.getElem?_toList]
          rw [← htk, List.getElem?_take] at hv
          split at hv
          · exact hv
          · cases hv
        have c0 := cell 0 _ rfl
        have c1 := cell 1 _ rfl
        have c2 := cell 2 _ rfl
        have c3 := cell 3 _ rfl
        have c4 := cell 4 _ rfl
        have c5 := cell 5 _ rfl
        have c6 := cell 6 _ rfl
        have c7 := cell 7 _ rfl
        have f : ∀ i, wr.frozen? ⟨g', i, none⟩ = false := fun i => hcur.frozen i
        have f0 := f 0
        have f1 := f 1
        have f2 := f 2
        have f3 := f 3
        have f4 := f 4
        have f5 := f 5
        have f6 := f 6
        have f7 := f 7
        have hrest : Hid (cur = (hcells [h0, h1] ++ cur.toList.drop 8).toArray) := by
          rw [← htk, List.take_append_drop]; exact rfl
        have HCUR := hide hcur
        clear cell hcur htk f
        by_cases hlt2 : h0.gen < h1.gen
        · have HH' : Hid (headsN (dread bytes cache) = [h1, h0]) := by rw [HH.out]; show (if h0.gen < h1.gen then [h1, h0] else [h0, h1]) = _; exact if_pos hlt2
          have l1 : (h0.gen : Int) < (h1.gen : Int) := by omega
          go_wp2
          go_quiet (fail)
          all_goals go_wp2
          have HCZ := hide hcz
          clear hcz
          go_region
          go_wp2
          go_ret
          have hS : Only (fun x => x = g') wr (((((((((wr.drewN nq).drew.setCell ⟨g', 0, none⟩ (.int .i64 h1.slot)).setCell ⟨g', 1, none⟩ (.int .u32 h1.gen)).setCell ⟨g', 2, none⟩ (.int .i64 h1.blk)).setCell ⟨g', 3, none⟩ (.int .u32 h1.rgen)).setCell ⟨g', 4, none⟩ (.int .i64 h0.slot)).setCell ⟨g', 5, none⟩ (.int .u32 h0.gen)).setCell ⟨g', 6, none⟩ (.int .i64 h0.blk)).setCell ⟨g', 7, none⟩ (.int .u32 h0.rgen)) := ((((((((((Only.refl _ _).drewN nq).drew).set2 0 _).set2 1 _).set2 2 _).set2 3 _).set2 4 _).set2 5 _).set2 6 _).set2 7 _
          have hB := ((((((((((HCUR.out.drewN nq).drew).set_ 0 (.int .i64 h1.slot)).set_ 1 (.int .u32 h1.gen)).set_ 2 (.int .i64 h1.blk)).set_ 3 (.int .u32 h1.rgen)).set_ 4 (.int .i64 h0.slot)).set_ 5 (.int .u32 h0.gen)).set_ 6 (.int .i64 h0.blk)).set_ 7 (.int .u32 h0.rgen))
          refine ⟨_, rfl, ?_, ?_, ?_⟩
          · rw [HH'.out]
            refine ⟨hcells_length _, .inr ⟨g', c, _, rfl, hbg, hB, hlc, hcm, by simp only [Array.size_setIfInBounds]; exact HCZ.out, ?_⟩⟩
            rw [hrest.out]
            rfl
          · refine HDK.out.only hS ?_
            intro x hx e
            subst e
            rcases hx with hx | hx | hx
            · subst hx; exact Blk.ne_ HCUR.out HDK.out.at_ (by decide) rfl
            · subst hx; exact Blk.ne_ HCUR.out HDK.out.blk (by decide) rfl
            · exact own_blk_ne HDK.out.own HCUR.out (by decide) hx.symm
          · exact Only.trans' HO.out hS fun x hx e => by omega
        · have HH' : Hid (headsN (dread bytes cache) = [h0, h1]) := by rw [HH.out]; show (if h0.gen < h1.gen then [h1, h0] else [h0, h1]) = _; exact if_neg hlt2
          have l1 : ¬ (h0.gen : Int) < (h1.gen : Int) := by omega
          go_wp2
          go_quiet (fail)
          all_goals go_wp2
          all_goals go_ret
          all_goals exact ⟨_, rfl, by rw [HH'.out]; exact ownN_below HOWN.out (below_drewN (Below.refl _ _) _), HDK.out.below (below_drewN (Below.refl _ _) _), HO.out.drewN _⟩
      | _ :: _ :: _ :: _, hle => simp at hle
end Go.Proofs.YtemondlgcmpbbaaGreatDoor
