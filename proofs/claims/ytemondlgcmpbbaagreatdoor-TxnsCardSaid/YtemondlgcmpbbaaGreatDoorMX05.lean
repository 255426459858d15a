/- Vb Fa Oa: merged. -/
import Derived.Test.YtemondlgcmpbbaaGreatDoorMX03
import Derived.Test.YtemondlgcmpbbaaGreatDoorMX04
import Derived.BigRegion
import Derived.Defers
import Derived.Recover
import Derived.Deep.DeepCutAuto
namespace Go.Proofs.YtemondlgcmpbbaaGreatDoor
open Go.RowKit
set_option maxRecDepth 100000
def Nums.calm (m : Nums) : Prop := m.off < 0 /\ m.bto <= m.calls
theorem Nums.calm.bad {m : Nums} (h : m.calm) : m.bad = false := by
 unfold Nums.bad
 rw [Bool.or_eq_false_iff]
 exact ⟨by simp; intro h1; have := h.1; omega, by simp; intro _; exact h.2⟩
theorem Nums.calm.tick {m : Nums} (h : m.calm) : m.tick.calm := ⟨h.1, show m.bto <= m.calls + 1 by have := h.2; omega⟩
theorem Nums.calm.wrote {m : Nums} (h : m.calm) : m.wrote.calm := h.tick
theorem Nums.calm.told {m : Nums} (h : m.calm) : m.tick.told = m.told := by unfold Nums.tick; rw [h.bad]; rfl
structure Hd where
 slot : Nat
 gen : Nat
 blk : Nat
 rgen : Nat
def Hd.cells (h : Hd) : Array Value := za7 h.slot h.gen h.blk h.rgen
def hcells (l : List Hd) : List Value := l.flatMap fun h => h.cells.toList
theorem zk1 (l : List Hd) : (hcells l).length = l.length * 4 := by
 induction l with
 | nil => rfl
 | cons h l ih => simp only [hcells, List.flatMap_cons, List.length_append, List.length_cons] at *; rw [ih]; simp [Hd.cells, za7]; omega
def headOf (s : Nat) (c : List UInt8) : Hd := ⟨s, pGen c, pBlk c, pRgen c⟩
def headUp (c : Nat -> List UInt8) : Nat -> List Hd
 | 0 => []
 | k + 1 => headUp c k ++ if pOk (c k) then [headOf k (c k)] else []
theorem zj8 (c : Nat -> List UInt8) : ∀ k, (headUp c k).length <= k
 | 0 => Nat.le_refl _
 | k + 1 => by
   have := zj8 c k
   unfold headUp
   rw [List.length_append]
   split
   . simp only [List.length_cons, List.length_nil]; omega
   . simp only [List.length_nil]; omega
def zi1 : List Hd -> List Hd
 | [h0, h1] => if h0.gen < h1.gen then [h1, h0] else [h0, h1]
 | l => l
def zay (c : Nat -> List UInt8) : List Hd := zi1 (headUp c 2)
def zbo (m : Nums) : Nat -> Nums
 | 0 => m
 | k + 1 => (zbo m k).tick
theorem zb9 {m : Nums} (h : m.calm) : ∀ k, (zbo m k).calm
 | 0 => h
 | k + 1 => (zb9 h k).tick
theorem zqf : (Tryz.prog.info? 149).map (fun i => (i.zero, i.size, i.bytes)) = some (some (.agg #[.int .i64 0, .int .u32 0, .int .i64 0, .int .u32 0]), 4, 32) := by kernel_rfl
set_option maxHeartbeats 2000000 in
theorem zif (K b g base n : Nat) (cv : Value) (m : Nums) (bytes : List UInt8) (cache : List (Nat × List UInt8)) (w : World) (h : Dk w K b g base n cv m bytes cache) (hc : m.calm) (hn : 8 <= n) (hK : K + 2 < zc8) :
   Calls Tryz.prog 143 #[vol b] w fun e w' => ∃ v, e = .returned v /\ w'.ownsRow w.heap.size 149 4 v (zay (zal bytes cache)).length (hcells (zay (zal bytes cache))) /\ Dk w' (K + 2) b g base n cv (zbo m 2) bytes cache /\ Only (fun x => x = b) w w' := by
 have H := zaa h
 have HC := zaa hc
 have HL0 : Hid (∀ i, i < 2 -> (zal bytes cache i).length = 128) := fun i hi => h.dlen (by omega)
 obtain ⟨i0, hi0, hz0, hz1, hz2⟩ := info_parts zqf
 have HI0 := zaa hi0
 have HZ0 := zaa hz0
 have HZ1 := zaa hz1
 have HZ2 := zaa hz2
 have hbl : b < w.heap.size := h.at_.lt
 clear h hc hi0 hz0 hz1 hz2
 unfold vol
 go_enter Tryz.func143, Tryz.ntmps143
 go_wp2
 go_loopw [3, 7] (fun s i wr => ∃ k : Nat, k <= 2 /\ i = .int .i64 k /\ wr.ownsRow w.heap.size 149 4 s (headUp (zal bytes cache) k).length (hcells (headUp (zal bytes cache) k)) /\ Dk wr (K + k) b g base n cv (zbo m k) bytes cache /\ Only (fun x => x = b) w wr /\ Blk wr w.heap.size 147 #[.iface 23 (.pointer (some ⟨b, 0, none⟩))]) (fun _ i _ => 2 - (intOf i).toNat)
 case atStart =>
  refine ⟨0, Nat.zero_le _, rfl, World.ownsRow_nil _ _ _ _, H.out.below ((Below.refl _ _).alloc (Nat.le_refl _) _), (Only.refl _ _).alloc _, Blk.new _ _ _⟩
 case round =>
  obtain ⟨k, hk, rfl, hown, hdk, ho, hv⟩ := hrel
  obtain ⟨A, c, rfl, hlc, hcm, hrow, _⟩ := zad hown
  have hle := zj8 (zal bytes cache) k
  have hv0 : wr.cell? ⟨w.heap.size, 0, none⟩ = some (.iface 23 (.pointer (some ⟨b, 0, none⟩))) := zab hv 0 rfl
  have HOWN := zaa hown
  have HDK := zaa hdk
  have HO := zaa ho
  have HV := zaa hv
  have hsz : w.heap.size < wr.heap.size := hv.lt
  by_cases hlt : k < 2
  . have HLK := zaa (HL0.out k hlt)
    have HR := zaa (zqe (K + k) b g base n k cv (zbo m k) bytes cache wr hdk (zb9 HC.out k).bad (by omega) (by omega))
    unfold vol at HR
    have k1 : (0 : Int) <= k := by omega
    have k2 : (k : Int) < 2 := by omega
    clear hown hdk ho hv
    cases hp : pOk (zal bytes cache k) with
    | false =>
      have HE : Hid (headUp (zal bytes cache) (k + 1) = headUp (zal bytes cache) k) := by show _ ++ _ = _; rw [hp]; simp
      have HPP := zaa hp
      clear hp
      go_wp2_with (first
       | (go_at_call 172; refine HR.out.mono ?_; rintro e w1 ⟨g', rfl, hd1, hg1, hz1, ho1⟩
          have HP := zaa (zj7 k 128 128 (some ⟨g', 0, none⟩) (zal bytes cache k) w1 (SlU.whole hg1 HLK.out (by omega)) (by omega) (by omega) (by omega) (by omega))
          rw [HPP.out] at HP
          unfold za7 at HP
          have HD1 := zaa hd1
          have HG1 := zaa hg1
          have HO1 := zaa ho1
          clear hd1 hg1 ho1)
       | (go_at_call 171; refine HP.out.mono ?_; rintro e w2 ⟨rfl, hb2⟩; have HB2 := zaa hb2; clear hb2))
      go_roundw
      case rel =>
       have h12 := HO1.out.below HB2.out
       refine ⟨k + 1, by omega, by go_num, ?_, (HD1.out.below HB2.out).below ((Below.refl _ _).alloc (Nat.le_refl _) _), (HO.out.trans h12).alloc _, ((HV.out.only h12 (by omega))).alloc _⟩
       rw [HE.out]
       exact zap (zap (zak HOWN.out HO1.out (zdg HDK.out.at_ (by decide))) HB2.out) ((Below.refl _ _).alloc (Nat.le_refl _) _)
      case measure => simp [intOf]; omega
    | true =>
      have HE : Hid (headUp (zal bytes cache) (k + 1) = headUp (zal bytes cache) k ++ [headOf k (zal bytes cache k)]) := by show _ ++ _ = _; rw [hp]; simp
      have HPP := zaa hp
      clear hp
      go_wp2_with (first
       | (go_at_call 172; refine HR.out.mono ?_; rintro e w1 ⟨g', rfl, hd1, hg1, hz1, ho1⟩
          have HP := zaa (zj7 k 128 128 (some ⟨g', 0, none⟩) (zal bytes cache k) w1 (SlU.whole hg1 HLK.out (by omega)) (by omega) (by omega) (by omega) (by omega))
          rw [HPP.out] at HP
          unfold za7 at HP
          have HD1 := zaa hd1
          have HG1 := zaa hg1
          have HO1 := zaa ho1
          have HOW1 := zaa (zak HOWN.out HO1.out (zdg HDK.out.at_ (by decide)))
          clear hd1 hg1 ho1)
       | (go_at_call 171; refine HP.out.mono ?_; rintro e w2 ⟨rfl, hb2⟩; have HB2 := zaa hb2; have HOW2 := zaa (zap HOW1.out hb2); clear hb2)
       | (at_builtin
          refine zah _ rfl (.tmp 19) (.tmp 21) 227 rfl w.heap.size 149 i0 _ 4 32 Tryz.underlying227 HI0.out HZ0.out HZ1.out HZ2.out rfl (by decide) _ _ _ rfl ((HOW2.out.alloc _).alloc _) (w2.heap.size + 2) (some ⟨w2.heap.size + 1, 0, none⟩) 1 1 (headOf k (zal bytes cache k)).cells.toList rfl ⟨rfl, fun _ => ⟨_, rfl, Nat.lt_succ_self _, fun j u hu => by rw [Addr.add_lit]; exact (Blk.new2 w2 _ 149 (headOf k (zal bytes cache k)).cells).range (cur := (headOf k (zal bytes cache k)).cells.toList) (o := 0) rfl j u hu⟩⟩ (zfm _ _ _ _) (by unfold maxLen; omega) (by omega) (by have := HB2.out.size; have := HO1.out.size; simp only [World.size_alloc]; omega) ?_
          intro v3 w3 hown3 hgr3 hat3
          have HOW3 := zaa hown3
          have HGR3 := zaa hgr3
          have HAT3 := zaa hat3
          clear hown3 hgr3 hat3))
      go_roundw
      case rel =>
       have h12 := HO1.out.below HB2.out
       have hbel3 : Below w2.heap.size w2 ((w2.alloc (.cells (headOf k (zal bytes cache k)).cells 149)).alloc (.cells (headOf k (zal bytes cache k)).cells 149)) := ((Below.refl _ _).alloc (Nat.le_refl _) _).alloc (by simp) _
       have hd2 := HD1.out.below HB2.out
       have ho3 : Only (fun x => some x = (Value.slice A (headUp (zal bytes cache) k).length c).ownBlock) w2 w3 := Only.grown (Only.of_below hbel3) HGR3.out fun g' e => .inl e.symm
       have hv2 := HV.out.only h12 (by omega)
       refine ⟨k + 1, by omega, by go_num, ?_, hd2.only ho3 ?_, ?_, hv2.only ho3 (fun e => zae HOW2.out hv2 (by decide) e.symm)⟩
       . rw [HE.out, List.length_append]
         simp only [hcells, List.flatMap_append, List.flatMap_cons, List.flatMap_nil, List.append_nil]
         exact HOW3.out
       . intro x hx e
         rcases hx with rfl | rfl | hx
         . exact zae HOW2.out hd2.at_ (by decide) e.symm
         . exact zae HOW2.out hd2.blk (by decide) e.symm
         . exact zdf HOW2.out hd2.own (by decide) (e.symm.trans hx) (by rw [<- e]; simp)
       . exact Only.trans' (HO.out.trans h12) ho3 fun x hx e => by have := (zaz HOWN.out e.symm).1; omega
      case measure => simp [intOf]; omega
  . obtain rfl : k = 2 := by omega
    clear hown hdk ho hv
    obtain ⟨l, hl⟩ : ∃ l, l = headUp (zal bytes cache) 2 := ⟨_, rfl⟩
    rw [<- hl] at HOWN hrow hle hlc ⊢
    have hh : zay (zal bytes cache) = zi1 l := by rw [hl]; rfl
    have HH := zaa hh
    have HLL := zaa hl
    clear hh hl
    match l, hle with
    | [], _ =>
      have HH' : Hid (zay (zal bytes cache) = []) := HH.out
      go_wp2
      go_quiet (fail)
      all_goals go_wp2
      all_goals go_ret
      all_goals exact ⟨_, rfl, by rw [HH'.out]; exact zap HOWN.out (zam (Below.refl _ _) _), HDK.out.below (zam (Below.refl _ _) _), HO.out.drewN _⟩
    | [h0], _ =>
      have HH' : Hid (zay (zal bytes cache) = [h0]) := HH.out
      go_wp2
      go_quiet (fail)
      all_goals go_wp2
      all_goals go_ret
      all_goals exact ⟨_, rfl, by rw [HH'.out]; exact zap HOWN.out (zam (Below.refl _ _) _), HDK.out.below (zam (Below.refl _ _) _), HO.out.drewN _⟩
    | [h0, h1], _ =>
      obtain ⟨g', cur, rfl, hcur, htk, hcz, hbg⟩ : ∃ g' cur, A = some ⟨g', 0, none⟩ /\ Blk wr g' 149 cur /\ cur.toList.take 8 = hcells [h0, h1] /\ cur.size = c * 4 /\ w.heap.size <= g' := by
       cases A with
       | none => obtain ⟨_, _, hv, _, _, _, hno⟩ := zad HOWN.out; have := (hno rfl).1; simp at this
       | some a =>
         obtain ⟨hbg, _, e, cur, hb, hz, ht⟩ := hrow a.block rfl
         exact ⟨a.block, cur, e, hb, ht, hz, hbg⟩
      have cell : ∀ j v, (hcells [h0, h1])[j]? = some v -> wr.cell? ⟨g', j, none⟩ = some v := fun j v hv => by
       rw [hcur.cell, <- Array.getElem?_toList]
       rw [<- htk, List.getElem?_take] at hv
       split at hv
       . exact hv
       . cases hv
      have c0 := cell 0 _ rfl
      have c1 := cell 1 _ rfl
      have c2 := cell 2 _ rfl
      have c3 := cell 3 _ rfl
      have c4 := cell 4 _ rfl
      have c5 := cell 5 _ rfl
      have c6 := cell 6 _ rfl
      have c7 := cell 7 _ rfl
      have f : ∀ i, wr.frozen? ⟨g', i, none⟩ = false := fun i => hcur.frozen i
      have f0 := f 0
      have f1 := f 1
      have f2 := f 2
      have f3 := f 3
      have f4 := f 4
      have f5 := f 5
      have f6 := f 6
      have f7 := f 7
      have hrest : Hid (cur = (hcells [h0, h1] ++ cur.toList.drop 8).toArray) := by
       rw [<- htk, List.take_append_drop]; exact rfl
      have HCUR := zaa hcur
      clear cell hcur htk f
      by_cases hlt2 : h0.gen < h1.gen
      . have HH' : Hid (zay (zal bytes cache) = [h1, h0]) := by rw [HH.out]; show (if h0.gen < h1.gen then [h1, h0] else [h0, h1]) = _; exact if_pos hlt2
        have l1 : (h0.gen : Int) < (h1.gen : Int) := by omega
        go_wp2
        go_quiet (fail)
        all_goals go_wp2
        have HCZ := zaa hcz
        clear hcz
        go_region
        go_wp2
        go_ret
        have hS : Only (fun x => x = g') wr (((((((((wr.drewN nq).drew.setCell ⟨g', 0, none⟩ (.int .i64 h1.slot)).setCell ⟨g', 1, none⟩ (.int .u32 h1.gen)).setCell ⟨g', 2, none⟩ (.int .i64 h1.blk)).setCell ⟨g', 3, none⟩ (.int .u32 h1.rgen)).setCell ⟨g', 4, none⟩ (.int .i64 h0.slot)).setCell ⟨g', 5, none⟩ (.int .u32 h0.gen)).setCell ⟨g', 6, none⟩ (.int .i64 h0.blk)).setCell ⟨g', 7, none⟩ (.int .u32 h0.rgen)) := ((((((((((Only.refl _ _).drewN nq).drew).set2 0 _).set2 1 _).set2 2 _).set2 3 _).set2 4 _).set2 5 _).set2 6 _).set2 7 _
        have hB := ((((((((((HCUR.out.drewN nq).drew).set_ 0 (.int .i64 h1.slot)).set_ 1 (.int .u32 h1.gen)).set_ 2 (.int .i64 h1.blk)).set_ 3 (.int .u32 h1.rgen)).set_ 4 (.int .i64 h0.slot)).set_ 5 (.int .u32 h0.gen)).set_ 6 (.int .i64 h0.blk)).set_ 7 (.int .u32 h0.rgen))
        refine ⟨_, rfl, ?_, ?_, ?_⟩
        . rw [HH'.out]
          refine ⟨zk1 _, .inr ⟨g', c, _, rfl, hbg, hB, hlc, hcm, by simp only [Array.size_setIfInBounds]; exact HCZ.out, ?_⟩⟩
          rw [hrest.out]
          rfl
        . refine HDK.out.only hS ?_
          intro x hx e
          subst e
          rcases hx with hx | hx | hx
          . subst hx; exact Blk.ne_ HCUR.out HDK.out.at_ (by decide) rfl
          . subst hx; exact Blk.ne_ HCUR.out HDK.out.blk (by decide) rfl
          . exact zae HDK.out.own HCUR.out (by decide) hx.symm
        . exact Only.trans' HO.out hS fun x hx e => by omega
      . have HH' : Hid (zay (zal bytes cache) = [h0, h1]) := by rw [HH.out]; show (if h0.gen < h1.gen then [h1, h0] else [h0, h1]) = _; exact if_neg hlt2
        have l1 : ¬ (h0.gen : Int) < (h1.gen : Int) := by omega
        go_wp2
        go_quiet (fail)
        all_goals go_wp2
        all_goals go_ret
        all_goals exact ⟨_, rfl, by rw [HH'.out]; exact zap HOWN.out (zam (Below.refl _ _) _), HDK.out.below (zam (Below.refl _ _) _), HO.out.drewN _⟩
    | _ :: _ :: _ :: _, hle => simp at hle
theorem zj9 (s : ByteArray) (p : Value) (w : World) : Calls Tryz.prog 91 #[.nilIface, .string s, p] w fun e w' => e = .returned (.tuple #[]) /\ w' = w := by
 go_enter Tryz.func91, Tryz.ntmps91
 go_wp2
 go_end0
 exact ⟨rfl, rfl⟩
theorem ztx (p : Addr) (w : World) : CallsD Tryz.prog 153 #[.pointer (some p)] .returning w fun e u' w' => u' = .returning /\ (e = .returned (.tuple #[]) /\ w' = w) := by
 refine callsD_of_wpS Tryz.func153 rfl fun c₀ cs hu => ?_
 apply wpS_region
 simp [wpOpsS, go_sem, recoverD, hu, Tryz.ntmps153]
 refine (zj9 _ _ _).mono ?_
 rintro e w' ⟨rfl, rfl⟩
 cases c₀
 simp_all [bodyPostS, results, Tryz.results153]
theorem ztl (p : Addr) (w : World) : CallsD Tryz.prog 142 #[.pointer (some p)] .returning w fun e u' w' => u' = .returning /\ (e = .returned (.tuple #[]) /\ w' = w) := by
 refine callsD_of_wpS Tryz.func142 rfl fun c₀ cs hu => ?_
 apply wpS_region
 simp [wpOpsS, go_sem, recoverD, hu, Tryz.ntmps142]
 refine (zj9 _ _ _).mono ?_
 rintro e w' ⟨rfl, rfl⟩
 cases c₀
 simp_all [bodyPostS, results, Tryz.results142]
def zau : List Hd -> Nat × Nat
 | [] => (0, 1)
 | h :: _ => (1 - h.slot, h.gen + 1)
def zeb (bytes : List UInt8) (cache : List (Nat × List UInt8)) (h : Nat × Nat) : List UInt8 := zea (zcf bytes cache) (h.1, pad 128 (zbx h.2 0 0))
theorem zei (c : Nat -> List UInt8) : ∀ k, ∀ h ∈ headUp c k, h.slot < k /\ h.gen < 1073741824 /\ 0 < h.gen
 | 0, h, hh => by cases hh
 | k + 1, h, hh => by
   rcases List.mem_append.1 hh with hh | hh
   . have := zei c k h hh
     exact ⟨by omega, this.2⟩
   . split at hh
     . rename_i hp
       rw [List.mem_singleton.1 hh]
       have h1 : pGen (c k) < 1073741824 := by
        unfold pOk at hp
        simp only [Bool.and_eq_true, decide_eq_true_eq] at hp
        exact hp.1.2
       have h2 : 0 < pGen (c k) := by
        unfold pOk at hp
        simp only [Bool.and_eq_true, decide_eq_true_eq] at hp
        exact hp.1.1.2
       exact ⟨Nat.lt_succ_self _, h1, h2⟩
     . cases hh
theorem ze1 (c : Nat -> List UInt8) : ∀ h ∈ zay c, h ∈ headUp c 2 := by
 intro h hh
 unfold zay at hh
 generalize headUp c 2 = l at hh
 match l with
 | [] => exact hh
 | [_] => exact hh
 | [a, b] =>
   unfold zi1 at hh
   simp only at hh
   split at hh
   . simp only [List.mem_cons, List.not_mem_nil, or_false] at hh ⊢
     exact hh.symm
   . exact hh
 | _ :: _ :: _ :: _ => exact hh
set_option maxHeartbeats 2000000 in
theorem zm5 (K b g base n : Nat) (cv : Value) (m : Nums) (bytes : List UInt8) (cache : List (Nat × List UInt8)) (w : World) (h : Dk w K b g base n cv m bytes cache) (hc : m.calm) (hn : 8 <= n) (hK : K + 5 < zc8) :
   Calls Tryz.prog 109 #[.iface 23 (.pointer (some ⟨b, 0, none⟩))] w fun e w' => e = .returned .nilIface /\ Dk w' (K + 5) b g base n (.slice none 0 0) (zbo m 2).tick.wrote.tick (zeb bytes cache (zau (zay (zal bytes cache)))) [] /\ Only (fun x => x = b \/ x = g) w w' := by
 have hmf : ∀ (fn : Fn) (first cap : Array Value) (w : World), (Instr.makeFunc fn first cap).run Tryz.prog w = .ok (.func fn first cap) w := fun _ _ _ _ => rfl
 have H := zaa h
 have HC := zaa hc
 obtain ⟨hs, hhs⟩ : ∃ hs, hs = zay (zal bytes cache) := ⟨_, rfl⟩
 have hmem : ∀ x ∈ hs, x.slot < 2 /\ x.gen < 1073741824 /\ 0 < x.gen := fun x hx => zei _ 2 x (ze1 _ x (hhs ▸ hx))
 have HHS := zaa hhs
 have HMEM := zaa hmem
 have H3 := zaa (h.below ((((Below.refl _ _).alloc (Nat.le_refl _) (Obj.cells #[.nilIface] 31)).alloc (by simp) (Obj.cells #[.iface 23 (.pointer (some ⟨b, 0, none⟩))] 147)).alloc (by simp; omega) (Obj.cells #[.int .i64 0, .int .u32 1, .int .i64 0, .int .u32 0] 149)))
 have HR := zaa (zif K b g base n cv m bytes cache _ H3.out hc hn (by omega))
 rw [<- hhs] at HR
 unfold vol at HR
 clear h hc hhs hmem
 go_enter_defers Tryz.func109, Tryz.ntmps109
 go_wp2_with fail
 refine HR.out.mono ?_
 rintro e w1 ⟨v, rfl, hown, hd1, ho1⟩
 obtain ⟨A, c, rfl, hlc, hcm, hrow, hno⟩ := zad hown
 have hz : w.heap.size + 1 + 1 + 1 <= w1.heap.size := by have := ho1.size; simpa only [World.size_alloc] using this
 have hbl : b < w.heap.size := H.out.at_.lt
 have e0 : Blk w1 w.heap.size 31 #[.nilIface] := ho1.blk (((Blk.new w _ _).alloc _).alloc _) (by omega)
 have e1 : Blk w1 (w.heap.size + 1) 147 #[.iface 23 (.pointer (some ⟨b, 0, none⟩))] := ho1.blk ((Blk.new2 w _ _ _).alloc _) (by omega)
 have e2 : Blk w1 (w.heap.size + 1 + 1) 149 #[.int .i64 0, .int .u32 1, .int .i64 0, .int .u32 0] := ho1.blk (by have := Blk.new2 (w.alloc (Obj.cells #[.nilIface] 31)) (Obj.cells #[.iface 23 (.pointer (some ⟨b, 0, none⟩))] 147) 149 #[.int .i64 0, .int .u32 1, .int .i64 0, .int .u32 0]; rwa [World.size_alloc] at this) (by omega)
 have hoW : Only (fun x => x = b) w w1 := Only.trans ((((Only.refl _ _).alloc _).alloc _).alloc _) ho1
 have HD1 := zaa hd1
 have HO1 := zaa hoW
 have HE0 := zaa e0
 have HE1 := zaa e1
 have HE2 := zaa e2
 have HROW := zaa hrow
 have HNO := zaa hno
 have HOWN := zaa hown
 clear hd1 ho1 hoW e0 e1 e2 hrow hno hown hmf
 go_upto_if 14 with fail
 go_cut [] from 15 to 25 (fun wx => Blk wx (w.heap.size + 1 + 1) 149 (za7 (zau hs).1 (zau hs).2 0 0) /\ Blk wx (w.heap.size + 1) 147 #[.iface 23 (.pointer (some ⟨b, 0, none⟩))] /\ Blk wx w.heap.size 31 #[.nilIface] /\ Dk wx (K + 2) b g base n cv (zbo m 2) bytes cache /\ Only (fun x => x = b) w wx)
 case first =>
  cases hs with
  | nil =>
    go_wp2
    go_meet
    exact ⟨HE2.out, HE1.out, HE0.out, HD1.out, HO1.out⟩
  | cons h t =>
    obtain ⟨gl, cur, rfl, hcur, htk⟩ : ∃ gl cur, A = some ⟨gl, 0, none⟩ /\ Blk w1 gl 149 cur /\ cur.toList.take ((h :: t).length * 4) = hcells (h :: t) := by
     cases A with
     | none => have := (HNO.out rfl).1; simp at this
     | some a =>
       obtain ⟨_, _, e, cur, hb, _, ht⟩ := HROW.out a.block rfl
       exact ⟨a.block, cur, e, hb, ht⟩
    have cell : ∀ j v, (hcells (h :: t))[j]? = some v -> w1.cell? ⟨gl, j, none⟩ = some v := fun j v hv => by
     rw [hcur.cell, <- Array.getElem?_toList]
     rw [<- htk, List.getElem?_take] at hv
     split at hv
     . exact hv
     . cases hv
    have c0 : w1.cell? ⟨gl, 0, none⟩ = some (.int .i64 h.slot) := cell 0 _ rfl
    have c1 : w1.cell? ⟨gl, 1, none⟩ = some (.int .u32 h.gen) := cell 1 _ rfl
    have hm := HMEM.out h (by simp)
    have l0 : (0 : Int) < ((t.length : Int) + 1) := by omega
    have lb : decide (0 < (h :: t).length) = true := by simp
    have lb2 : 0 < (h :: t).length := by simp
    have q1 : IntKind.i64.wrap (1 - (h.slot : Int)) = ((1 - h.slot : Nat) : Int) := by rw [IntKind.wrap_i64]; have := hm.1; omega
    have q2 : IntKind.u32.wrap ((h.gen : Int) + 1) = ((h.gen + 1 : Nat) : Int) := by rw [IntKind.wrap_u32]; have := hm.2.1; omega
    have d0 := zab HE2.out 0 rfl
    have d1 := zab HE2.out 1 rfl
    have d2 := zab HE2.out 2 rfl
    have d3 := zab HE2.out 3 rfl
    have f0 : w1.frozen? ⟨w.heap.size + 1 + 1, 0, none⟩ = false := HE2.out.frozen 0
    have f1 : w1.frozen? ⟨w.heap.size + 1 + 1, 1, none⟩ = false := HE2.out.frozen 1
    have f2 : w1.frozen? ⟨w.heap.size + 1 + 1, 2, none⟩ = false := HE2.out.frozen 2
    have f3 : w1.frozen? ⟨w.heap.size + 1 + 1, 3, none⟩ = false := HE2.out.frozen 3
    have hgll : gl < w1.heap.size := hcur.lt
    have hgln : gl ≠ w.heap.size + 1 + 1 := by
     have := (zaz HOWN.out (g := gl) rfl).1
     simp only [World.size_alloc] at this
     omega
    clear cell hcur htk
    go_wp2
    refine wp_region_noPanic ?_
    refine wp_region_held_drew (S := fun w' => w'.cell? ⟨gl, 0, none⟩ = some (.int .i64 h.slot) /\ w'.cell? ⟨gl, 1, none⟩ = some (.int .u32 h.gen)) (by kernel_rfl) ⟨c0, c1⟩ ?_
    intro hS0
    refine zac 0 (.slice (some ⟨gl, 0, none⟩) (h :: t).length c) (some 15) rfl rfl (.inl ⟨rfl, fun w' hSw => by go_simp⟩) hS0 ?_
    simp only [Act.put, n1, n2, n3]
    refine zac 1 (.pointer (some ⟨gl, 0, none⟩)) (some 16) rfl rfl (.inl ⟨rfl, fun w' hSw => by clear hSw; go_simp⟩) hS0 ?_
    simp only [Act.put, n1, n2, n3]
    refine zac 2 (.pointer (some ⟨gl, 0, none⟩)) (some 17) rfl rfl (.inl ⟨rfl, fun w' hSw => by go_simp⟩) hS0 ?_
    simp only [Act.put, n1, n2, n3]
    refine zac 3 (.int .i64 h.slot) (some 18) rfl rfl (.inl ⟨rfl, fun w' hSw => by have s1 := hSw.1; clear hSw; go_simp⟩) hS0 ?_
    simp only [Act.put, n1, n2, n3]
    refine zac 4 (.int .i64 (1 - h.slot : Nat)) (some 19) rfl rfl (.inl ⟨rfl, fun w' hSw => by clear hSw; go_simp⟩) hS0 ?_
    simp only [Act.put, n1, n2, n3]
    refine zac 5 (.slice (some ⟨gl, 0, none⟩) (h :: t).length c) (some 20) rfl rfl (.inl ⟨rfl, fun w' hSw => by go_simp⟩) hS0 ?_
    simp only [Act.put, n1, n2, n3]
    refine zac 6 (.pointer (some ⟨gl, 0, none⟩)) (some 21) rfl rfl (.inl ⟨rfl, fun w' hSw => by clear hSw; go_simp⟩) hS0 ?_
    simp only [Act.put, n1, n2, n3]
    refine zac 7 (.pointer (some ⟨gl, 1, none⟩)) (some 22) rfl rfl (.inl ⟨rfl, fun w' hSw => by go_simp⟩) hS0 ?_
    simp only [Act.put, n1, n2, n3]
    refine zac 8 (.int .u32 h.gen) (some 23) rfl rfl (.inl ⟨rfl, fun w' hSw => by have s1 := hSw.2; clear hSw; go_simp⟩) hS0 ?_
    simp only [Act.put, n1, n2, n3]
    refine zac 9 (.int .u32 (h.gen + 1 : Nat)) (some 24) rfl rfl (.inl ⟨rfl, fun w' hSw => by clear hSw; go_simp⟩) hS0 ?_
    simp only [Act.put, n1, n2, n3]
    refine zac 10 (.agg (za7 (1 - h.slot) (h.gen + 1) 0 0)) (some 25) rfl rfl (.inl ⟨rfl, fun w' hSw => by clear hSw; go_simp; rfl⟩) hS0 ?_
    simp only [Act.put, n1, n2, n3]
    refine zaw (i := 11) (by kernel_rfl) rfl rfl ?_
    refine zc5 149 (.tmp 4) (.tmp 25) rfl (w.heap.size + 1 + 1) 0 (za7 (1 - h.slot) (h.gen + 1) 0 0).toList rfl rfl 149 (za7 0 1 0 0).toList HE2.out.drew (Nat.le_refl _) zg5 (zfm _ _ _ _) ?_
    intro w2 hb2 hg2 hs2
    have hO2 : Only (fun x => x = w.heap.size + 1 + 1) w1 w2 := Only.grown ((Only.refl _ _).drew) hg2 fun g' e => .inl (by injection e with e; exact e.symm)
    have c02 := (hO2.cell (p := ⟨gl, 0, none⟩) hgll (by simpa using hgln)).trans c0
    have c12 := (hO2.cell (p := ⟨gl, 1, none⟩) hgll (by simpa using hgln)).trans c1
    refine ⟨⟨c02, c12⟩, ?_⟩
    change wpAnyH _ _ _ _ _ _ _ (Act.put _ none undef) _
    simp only [Act.put]
    refine wpAnyH_done (by kernel_rfl) ?_ _
    refine NoPanic.normal ?_
    have hb2' : Blk w2 (w.heap.size + 1 + 1) 149 (za7 (1 - h.slot) (h.gen + 1) 0 0) := by rw [ze7 (L := (za7 0 1 0 0).toList) (cs := (za7 (1 - h.slot) (h.gen + 1) 0 0).toList) rfl] at hb2; exact hb2
    clear hb2 hg2 hs2 c02 c12 c0 c1 d0 d1 d2 d3 f0 f1 f2 f3
    go_wp2
    go_meet
    refine ⟨hb2', HE1.out.only hO2 (by omega), HE0.out.only hO2 (by omega), HD1.out.only hO2 ?_, Only.trans' HO1.out hO2 ?_⟩
    . intro x hx e
      have := H.out.lt hx
      omega
    . intro x hx e
      omega
 case rest =>
  obtain ⟨f2, f1, f0, hd2, ho2⟩ := hcut
  have hz2 : w.heap.size + 1 + 1 < wc.heap.size := f2.lt
  have hgl : g < w.heap.size := H.out.blk.lt
  have v0 : wc.cell? ⟨w.heap.size + 1, 0, none⟩ = some (.iface 23 (.pointer (some ⟨b, 0, none⟩))) := zab f1 0 rfl
  have HNG : Hid ((zau hs).2 < 4294967296) := by
   cases hs with
   | nil => exact (by decide : 1 < 4294967296)
   | cons h t => have := (HMEM.out h (by simp)).2.1; exact (by omega : h.gen + 1 < 4294967296)
  have HNS : Hid ((zau hs).1 < n) := by
   cases hs with
   | nil => exact (by omega : 0 < n)
   | cons h t => exact (by omega : 1 - h.slot < n)
  have HV := zaa (zgd (K + 2) b g base n cv (zbo m 2) bytes cache wc hd2 (zb9 HC.out 2).bad (by omega))
  unfold vol at HV
  have HF2 := zaa f2
  have HF1 := zaa f1
  have HF0 := zaa f0
  have HO2 := zaa ho2
  clear f2 f1 f0 hd2 ho2
  go_wp2_with fail
  refine HV.out.mono ?_
  rintro e w3 ⟨rfl, hd3, ho3⟩
  have k2 := HF2.out.only ho3 (fun e => by omega)
  have k1 := HF1.out.only ho3 (fun e => by omega)
  have k0 := HF0.out.only ho3 (fun e => by omega)
  have HS3 : Hid (w3.drew.cell? ⟨w.heap.size + 1, 0, none⟩ = some (.iface 23 (.pointer (some ⟨b, 0, none⟩))) /\ w3.drew.cell? ⟨w.heap.size + 1 + 1, 0, none⟩ = some (.int .i64 (zau hs).1) /\ w3.drew.cell? ⟨w.heap.size + 1 + 1, 1, none⟩ = some (.int .u32 (zau hs).2) /\ w3.drew.cell? ⟨w.heap.size + 1 + 1, 2, none⟩ = some (.int .i64 0) /\ w3.drew.cell? ⟨w.heap.size + 1 + 1, 3, none⟩ = some (.int .u32 0)) := ⟨zab k1 0 rfl, zab k2 0 rfl, zab k2 1 rfl, zab k2 2 rfl, zab k2 3 rfl⟩
  have HS4 : Hid (∀ w4, Below w3.drew.heap.size w3.drew w4 -> w4.cell? ⟨w.heap.size + 1, 0, none⟩ = some (.iface 23 (.pointer (some ⟨b, 0, none⟩))) /\ w4.cell? ⟨w.heap.size + 1 + 1, 0, none⟩ = some (.int .i64 (zau hs).1) /\ w4.cell? ⟨w.heap.size + 1 + 1, 1, none⟩ = some (.int .u32 (zau hs).2) /\ w4.cell? ⟨w.heap.size + 1 + 1, 2, none⟩ = some (.int .i64 0) /\ w4.cell? ⟨w.heap.size + 1 + 1, 3, none⟩ = some (.int .u32 0)) := fun w4 hb =>
   have j2 := k2.drew.below hb k2.lt
   have j1 := k1.drew.below hb k1.lt
   ⟨zab j1 0 rfl, zab j2 0 rfl, zab j2 1 rfl, zab j2 2 rfl, zab j2 3 rfl⟩
  have HS5 : Hid (∀ w4 w5, Below w3.drew.heap.size w3.drew w4 -> Only (dfp b g (.slice none 0 0)) w4 w5 -> w5.cell? ⟨w.heap.size + 1, 0, none⟩ = some (.iface 23 (.pointer (some ⟨b, 0, none⟩))) /\ w5.cell? ⟨w.heap.size + 1 + 1, 0, none⟩ = some (.int .i64 (zau hs).1) /\ w5.cell? ⟨w.heap.size + 1 + 1, 1, none⟩ = some (.int .u32 (zau hs).2) /\ w5.cell? ⟨w.heap.size + 1 + 1, 2, none⟩ = some (.int .i64 0) /\ w5.cell? ⟨w.heap.size + 1 + 1, 3, none⟩ = some (.int .u32 0)) := fun w4 w5 hb ho =>
   have hnd : ∀ x, w.heap.size <= x -> ¬ dfp b g (.slice none 0 0) x := fun x hx h => by
    rcases h with h | h | h
    . omega
    . omega
    . simp [Value.ownBlock] at h
   have j2 := (k2.drew.below hb k2.lt).only ho (hnd _ (by omega))
   have j1 := (k1.drew.below hb k1.lt).only ho (hnd _ (by omega))
   ⟨zab j1 0 rfl, zab j2 0 rfl, zab j2 1 rfl, zab j2 2 rfl, zab j2 3 rfl⟩
  have HD3 := zaa hd3.drew
  have HO3 := zaa ho3
  have HK2 := zaa k2
  have HK1 := zaa k1
  have HK0 := zaa k0
  clear hd3 ho3 k2 k1 k0 v0
  go_wp2_with fail
  refine wp_region_noPanic ?_
  refine wp_region_held_drew (S := fun w' => w'.cell? ⟨w.heap.size + 1, 0, none⟩ = some (.iface 23 (.pointer (some ⟨b, 0, none⟩))) /\ w'.cell? ⟨w.heap.size + 1 + 1, 0, none⟩ = some (.int .i64 (zau hs).1) /\ w'.cell? ⟨w.heap.size + 1 + 1, 1, none⟩ = some (.int .u32 (zau hs).2) /\ w'.cell? ⟨w.heap.size + 1 + 1, 2, none⟩ = some (.int .i64 0) /\ w'.cell? ⟨w.heap.size + 1 + 1, 3, none⟩ = some (.int .u32 0)) (by kernel_rfl) HS3.out ?_
  intro hS0
  refine zac 0 (.agg #[.iface 23 (.pointer (some ⟨b, 0, none⟩))]) (some 28) rfl rfl (.inl ⟨rfl, fun w' hSw => by have s1 := hSw.1; clear hSw; go_simp⟩) hS0 ?_
  simp only [Act.put, n1, n2, n3]
  refine zac 1 (.pointer (some ⟨w.heap.size + 1 + 1, 0, none⟩)) (some 29) rfl rfl (.inl ⟨rfl, fun w' hSw => by go_simp⟩) hS0 ?_
  simp only [Act.put, n1, n2, n3]
  refine zac 2 (.int .i64 (zau hs).1) (some 30) rfl rfl (.inl ⟨rfl, fun w' hSw => by have s1 := hSw.2.1; clear hSw; go_simp⟩) hS0 ?_
  simp only [Act.put, n1, n2, n3]
  refine zac 3 (.agg #[.int .i64 (zau hs).1, .int .u32 (zau hs).2, .int .i64 0, .int .u32 0]) (some 31) rfl rfl (.inl ⟨rfl, fun w' hSw => by obtain ⟨_, s1, s2, s3, s4⟩ := hSw; go_simp⟩) hS0 ?_
  simp only [Act.put, n1, n2, n3]
  refine zda (i := 4) (f := 95) (some 32) (by kernel_rfl) rfl rfl rfl (by first | (go_simp; done) | (go_simp; rfl)) (zkz (zau hs).1 (zau hs).2 0 0 _ HNG.out (by omega) (by omega)) ?_
  rintro _ w4 ⟨g4, rfl, hb4, hz4, hbel4⟩
  refine ⟨(.slice (some ⟨g4, 0, none⟩) 32 32), rfl, HS4.out _ hbel4, ?_⟩
  simp only [Act.put, n1, n2, n3]
  refine zda (i := 5) (f := 92) (some 33) (by kernel_rfl) rfl rfl rfl (by first | (go_simp; done) | (go_simp; rfl)) (zor (K + 3) b g base n (zau hs).1 32 32 (some ⟨g4, 0, none⟩) (.slice none 0 0) (zbo m 2).tick (zcf bytes cache) (zbx (zau hs).2 0 0) [] w4 (HD3.out.below hbel4) (zb9 HC.out 3).bad HNS.out (by omega) (SlU.whole hb4 rfl (by omega)) (by omega) (by simp)) ?_
  rintro _ w5 ⟨cv5, rfl, hd5, ho5, hf5⟩
  refine ⟨(.tuple #[]), rfl, HS5.out _ _ hbel4 ho5, ?_⟩
  simp only [Act.put, n1, n2, n3]
  refine wpAnyH_done (by kernel_rfl) ?_ _
  refine NoPanic.normal ?_
  have hdf : dfp b g cv5 = dfp b g cv5 := rfl
  have HV5 := zaa (zgd (K + 4) b g base n cv5 (zbo m 2).tick.wrote (zcf bytes cache) _ w5 hd5 (zb9 HC.out 3).wrote.bad (by omega))
  unfold vol at HV5
  have hnd : ∀ x, w.heap.size <= x -> ¬ dfp b g (.slice none 0 0) x := fun x hx h => by
   rcases h with h | h | h
   . omega
   . omega
   . simp [Value.ownBlock] at h
  have hz3 : w3.heap.size <= w4.heap.size := hbel4.size
  have j1 := (HK1.out.drew.below hbel4 HK1.out.lt).only ho5 (hnd _ (by omega))
  have j0 := (HK0.out.drew.below hbel4 HK0.out.lt).only ho5 (hnd _ (by omega))
  have v5 : w5.cell? ⟨w.heap.size + 1, 0, none⟩ = some (.iface 23 (.pointer (some ⟨b, 0, none⟩))) := zab j1 0 rfl
  have HJ0 := zaa j0
  have HO5 := zaa ho5
  have HB4' := zaa hbel4
  clear hdf hd5 hf5 hb4 hz4 j1 j0 ho5 hnd hbel4 hS0
  go_wp2_with fail
  refine HV5.out.mono ?_
  rintro e w6 ⟨rfl, hd6, ho6⟩
  have j6 := HJ0.out.only ho6 (fun e => by omega)
  have HD6 := zaa hd6
  have HO6 := zaa ho6
  have m0 := zab j6 0 rfl
  have n0 : w6.frozen? ⟨w.heap.size, 0, none⟩ = false := j6.frozen 0
  have HJ6 := zaa j6
  clear hd6 ho6 j6 v5
  go_wp2
  refine leaves_cons (f := 153) (args := #[.pointer (some ⟨w.heap.size, 0, none⟩)]) (by simp) (by simp [go_sem]) ?_
  refine (ztx ⟨w.heap.size, 0, none⟩ _).mono ?_
  rintro e u' w7 ⟨rfl, rfl, rfl⟩
  have m7 := zab (HJ6.out.set_ 0 .nilIface) 0 rfl
  have o1 : Only (fun x => x = b \/ x = g) w wc := HO2.out.mono fun _ _ h => .inl h
  have o2 := (((o1.trans HO3.out).drew).below HB4'.out)
  have o3 := o2.trans (HO5.out.mono fun x _ h => by
   rcases h with h | h | h
   . exact .inl h
   . exact .inr h
   . simp [Value.ownBlock] at h)
  have o4 := (o3.trans HO6.out).setCell (p := ⟨w.heap.size, 0, none⟩) (.inr (Nat.le_refl _)) .nilIface
  refine ⟨.nilIface, by simp [results, Tryz.results109, go_sem, m7], rfl, ?_, o4⟩
  have hlt : ∀ x, dfp b g (.slice none 0 0) x -> ¬ (fun x => x = w.heap.size) x := fun x hx e => by
   have := H.out.lt (x := x) (by
    rcases hx with h | h | h
    . exact .inl h
    . exact .inr (.inl h)
    . simp [Value.ownBlock] at h)
   have e : x = w.heap.size := e
   omega
  have := HD6.out.only (Only.set1 w6 w.heap.size 0 .nilIface) hlt
  rw [<- HHS.out]
  exact this
def zao (w : World) (f : Nat) (s : ByteArray) (e : Nat) : Prop := Blk w f 130 #[.string s, .iface 44 (.int .i64 e)]
def zag (f : Nat) : Value := .iface 128 (.pointer (some ⟨f, 0, none⟩))
def zdh : ByteArray := ⟨#[111, 112, 101, 110]⟩
theorem zqg : (Tryz.prog.info? 88).map (·.size) = some [Value.pointer none, .int .i64 0].length := by kernel_rfl
theorem zqh : ∀ v ∈ [Value.pointer none, .int .i64 0], v.oneCell' = true := by intro v hv; simp at hv; rcases hv with rfl | rfl <;> rfl
set_option maxHeartbeats 2000000 in
theorem zos (K b g base n : Nat) (cv : Value) (m : Nums) (bytes : List UInt8) (cache : List (Nat × List UInt8)) (w : World) (h : Dk w K b g base n cv m bytes cache) (hc : m.calm) (hn : 8 <= n) (hK : K + 5 < zc8) (hh : zay (zal bytes cache) = []) :
   Calls Tryz.prog 104 #[.iface 23 (.pointer (some ⟨b, 0, none⟩))] w fun e w' => ∃ f, e = .returned (.tuple #[.pointer none, .agg #[.pointer none, .int .i64 0], zag f]) /\ zao w' f zdh 9 /\ w.heap.size <= f /\ Dk w' (K + 2) b g base n cv (zbo m 2) bytes cache /\ Only (fun x => x = b) w w' := by
 have hmf : ∀ (fn : Fn) (first cap : Array Value) (w : World), (Instr.makeFunc fn first cap).run Tryz.prog w = .ok (.func fn first cap) w := fun _ _ _ _ => rfl
 have H := zaa h
 have H3 := zaa (h.below ((((Below.refl _ _).alloc (Nat.le_refl _) (Obj.cells #[.pointer none, .int .i64 0] 88)).alloc (by simp) (Obj.cells #[.nilIface] 31)).alloc (by simp; omega) (Obj.cells #[.iface 23 (.pointer (some ⟨b, 0, none⟩))] 147)))
 have HR := zaa (zif K b g base n cv m bytes cache _ H3.out hc hn (by omega))
 rw [hh] at HR
 unfold vol at HR
 clear h hc hh
 go_enter_defers Tryz.func104, Tryz.ntmps104
 go_wp2_with fail
 refine HR.out.mono ?_
 rintro e w1 ⟨v, rfl, hown, hd1, ho1⟩
 obtain ⟨A, c, rfl, hlc, hcm, hrow, hno⟩ := zad hown
 have hz : w.heap.size + 1 + 1 + 1 <= w1.heap.size := by have := ho1.size; simpa only [World.size_alloc] using this
 have hbl : b < w.heap.size := H.out.at_.lt
 have e0 : Blk w1 w.heap.size 88 #[.pointer none, .int .i64 0] := ho1.blk (((Blk.new w _ _).alloc _).alloc _) (by omega)
 have e1 : Blk w1 (w.heap.size + 1) 31 #[.nilIface] := ho1.blk ((Blk.new2 w _ _ _).alloc _) (by omega)
 have hoW : Only (fun x => x = b) w w1 := Only.trans ((((Only.refl _ _).alloc _).alloc _).alloc _) ho1
 have c0 := zab e0 0 rfl
 have c1 := zab e0 1 rfl
 have c2 := zab e1 0 rfl
 have f0 : w1.frozen? ⟨w.heap.size, 0, none⟩ = false := e0.frozen 0
 have f1 : w1.frozen? ⟨w.heap.size, 1, none⟩ = false := e0.frozen 1
 have f2 : w1.frozen? ⟨w.heap.size + 1, 0, none⟩ = false := e1.frozen 0
 have c0' := fun o => zaj o c0
 have c1' := fun o => zaj o c1
 have c2' := fun o => zaj o c2
 have f0' : ∀ o, (w1.alloc o).frozen? ⟨w.heap.size, 0, none⟩ = false := fun o => (e0.alloc o).frozen 0
 have f1' : ∀ o, (w1.alloc o).frozen? ⟨w.heap.size, 1, none⟩ = false := fun o => (e0.alloc o).frozen 1
 have f2' : ∀ o, (w1.alloc o).frozen? ⟨w.heap.size + 1, 0, none⟩ = false := fun o => (e1.alloc o).frozen 0
 have HD1 := zaa hd1
 have HO1 := zaa hoW
 have HE0 := zaa e0
 have HE1 := zaa e1
 clear hd1 ho1 hoW e0 e1 hrow hno hown hmf
 go_wp2
 refine wp_loop_rounds 1 ?_
 rw [rounds_succ]
 go_wp2
 refine leaves_cons (f := 142) (args := #[.pointer (some ⟨w.heap.size + 1, 0, none⟩)]) (by simp) (by simp [go_sem]) ?_
 refine (ztl ⟨w.heap.size + 1, 0, none⟩ _).mono ?_
 rintro e u' w7 ⟨rfl, rfl, rfl⟩
 have k0 := ((HE0.out.alloc (.cells #[.string zdh, .iface 44 (.int .i64 9)] 130)).set_ 0 (.pointer none)).set_ 1 (.int .i64 0)
 have k1 := (((HE1.out.alloc (.cells #[.string zdh, .iface 44 (.int .i64 9)] 130)).only (Only.set1 _ w.heap.size 0 (.pointer none)) (by simp)).only (Only.set1 _ w.heap.size 1 (.int .i64 0)) (by simp)).set_ 0 (zag w1.heap.size)
 have k0 := k0.only (Only.set1 _ (w.heap.size + 1) 0 (zag w1.heap.size)) (by simp)
 have r0 := zab k0 0 rfl
 have r1 := zab k0 1 rfl
 have r2 := zab k1 0 rfl
 simp only [zag, zdh] at r0 r1 r2
 refine ⟨.tuple #[.pointer none, .agg #[.pointer none, .int .i64 0], zag w1.heap.size], by simp [results, Tryz.results104, go_sem, r0, r1, r2, zag], ?_⟩
 have kF : Blk (w1.alloc (.cells #[.string zdh, .iface 44 (.int .i64 9)] 130)) w1.heap.size 130 #[.string zdh, .iface 44 (.int .i64 9)] := Blk.new ..
 have p1 := (kF.only (Only.set1 _ w.heap.size 0 (.pointer none)) (by omega)).only (Only.set1 _ w.heap.size 1 (.int .i64 0)) (by omega)
 have p2 := p1.only (Only.set1 _ (w.heap.size + 1) 0 (zag w1.heap.size)) (by omega)
 have o1 := HO1.out.alloc (.cells #[.string zdh, .iface 44 (.int .i64 9)] 130)
 have o2 := ((o1.setCell (p := ⟨w.heap.size, 0, none⟩) (.inr (Nat.le_refl _)) (.pointer none)).setCell (p := ⟨w.heap.size, 1, none⟩) (.inr (Nat.le_refl _)) (.int .i64 0)).setCell (p := ⟨w.heap.size + 1, 0, none⟩) (.inr (by simp)) (zag w1.heap.size)
 refine ⟨w1.heap.size, rfl, p2, by omega, ?_, o2⟩
 have d1 := HD1.out.below ((Below.refl _ _).alloc (Nat.le_refl _) (.cells #[.string zdh, .iface 44 (.int .i64 9)] 130))
 have hlt : ∀ x, dfp b g cv x -> x < w.heap.size := fun x hx => H.out.lt hx
 have d2 := (d1.only (Only.set1 _ w.heap.size 0 (.pointer none)) fun x hx e => by have := hlt x hx; omega).only (Only.set1 _ w.heap.size 1 (.int .i64 0)) fun x hx e => by have := hlt x hx; omega
 exact d2.only (Only.set1 _ (w.heap.size + 1) 0 (zag w1.heap.size)) fun x hx e => by have := hlt x hx; omega
set_option maxHeartbeats 2000000 in
theorem zot (K b g base n : Nat) (m : Nums) (bytes : List UInt8) (cache : List (Nat × List UInt8)) (cv : Value) (w : World) (h : Dk w K b g base n cv m bytes cache) (hc : m.calm) (hn : 8 <= n) (hK : K + 5 < zc8) (hd : Hd) (tl : List Hd) (hh : zay (zal bytes cache) = hd :: tl) (hz0 : hd.blk = 0) :
   Calls Tryz.prog 104 #[.iface 23 (.pointer (some ⟨b, 0, none⟩))] w fun e w' => ∃ f, e = .returned (.tuple #[.pointer (some ⟨f, 0, none⟩), .agg #[.pointer none, .int .i64 0], .nilIface]) /\ Blk w' f 151 (#[.iface 23 (.pointer (some ⟨b, 0, none⟩))] ++ hd.cells) /\ w.heap.size <= f /\ Dk w' (K + 3) b g base n (.slice none 0 0) (zbo m 3) (zcf bytes cache) [] /\ Only (fun x => x = b \/ x = g) w w' := by
 have hmf : ∀ (fn : Fn) (first cap : Array Value) (w : World), (Instr.makeFunc fn first cap).run Tryz.prog w = .ok (.func fn first cap) w := fun _ _ _ _ => rfl
 have hmm := @run_makeMap Tryz.prog
 have H := zaa h
 have HC := zaa hc
 have hmem : hd.slot < 2 /\ hd.gen < 1073741824 /\ 0 < hd.gen := zei _ 2 hd (ze1 _ hd (hh ▸ List.mem_cons_self ..))
 have HMEM := zaa hmem
 have H3 := zaa (h.below ((((Below.refl _ _).alloc (Nat.le_refl _) (Obj.cells #[.pointer none, .int .i64 0] 88)).alloc (by simp) (Obj.cells #[.nilIface] 31)).alloc (by simp; omega) (Obj.cells #[.iface 23 (.pointer (some ⟨b, 0, none⟩))] 147)))
 have HR := zaa (zif K b g base n cv m bytes cache _ H3.out hc hn (by omega))
 rw [hh] at HR
 unfold vol at HR
 clear h hc hh hmem
 go_enter_defers Tryz.func104, Tryz.ntmps104
 go_wp2_with fail
 refine HR.out.mono ?_
 rintro e w1 ⟨v, rfl, hown, hd1, ho1⟩
 obtain ⟨A, c, rfl, hlc, hcm, hrow, hno⟩ := zad hown
 have hz : w.heap.size + 1 + 1 + 1 <= w1.heap.size := by have := ho1.size; simpa only [World.size_alloc] using this
 have hbl : b < w.heap.size := H.out.at_.lt
 have e0 : Blk w1 w.heap.size 88 #[.pointer none, .int .i64 0] := ho1.blk (((Blk.new w _ _).alloc _).alloc _) (by omega)
 have e1 : Blk w1 (w.heap.size + 1) 31 #[.nilIface] := ho1.blk ((Blk.new2 w _ _ _).alloc _) (by omega)
 have e2 : Blk w1 (w.heap.size + 1 + 1) 147 #[.iface 23 (.pointer (some ⟨b, 0, none⟩))] := ho1.blk (by have := Blk.new2 (w.alloc (Obj.cells #[.pointer none, .int .i64 0] 88)) (Obj.cells #[.nilIface] 31) 147 #[.iface 23 (.pointer (some ⟨b, 0, none⟩))]; rwa [World.size_alloc] at this) (by omega)
 have hoW : Only (fun x => x = b) w w1 := Only.trans ((((Only.refl _ _).alloc _).alloc _).alloc _) ho1
 obtain ⟨gl, cur, rfl, hcur, htk⟩ : ∃ gl cur, A = some ⟨gl, 0, none⟩ /\ Blk w1 gl 149 cur /\ cur.toList.take ((hd :: tl).length * 4) = hcells (hd :: tl) := by
  cases A with
  | none => have := (hno rfl).1; simp at this
  | some a =>
    obtain ⟨_, _, e, cur, hb, _, ht⟩ := hrow a.block rfl
    exact ⟨a.block, cur, e, hb, ht⟩
 have cell : ∀ j v, (hcells (hd :: tl))[j]? = some v -> w1.cell? ⟨gl, j, none⟩ = some v := fun j v hv => by
  rw [hcur.cell, <- Array.getElem?_toList]
  rw [<- htk, List.getElem?_take] at hv
  split at hv
  . exact hv
  . cases hv
 have c0 : w1.cell? ⟨gl, 0, none⟩ = some (.int .i64 hd.slot) := cell 0 _ rfl
 have c1 : w1.cell? ⟨gl, 1, none⟩ = some (.int .u32 hd.gen) := cell 1 _ rfl
 have c2 : w1.cell? ⟨gl, 2, none⟩ = some (.int .i64 hd.blk) := cell 2 _ rfl
 have c3 : w1.cell? ⟨gl, 3, none⟩ = some (.int .u32 hd.rgen) := cell 3 _ rfl
 have l0 : (0 : Int) < ((tl.length : Int) + 1) := by omega
 have lb : decide (0 < (hd :: tl).length) = true := by simp
 have lb2 : 0 < (hd :: tl).length := by simp
 have lb3 : decide ((0 : Int) < ((tl.length : Int) + 1)) = true := by simp
 have v0 := zab e2 0 rfl
 have v0' := fun o => zaj o v0
 have v0'' := fun o o1 o2 => zaj o2 (zaj o1 (zaj o v0))
 have t0'' := fun o o1 o2 => zaj o2 (zaj o1 (zaj o (zab e0 0 rfl)))
 have t1'' := fun o o1 o2 => zaj o2 (zaj o1 (zaj o (zab e0 1 rfl)))
 have f0'' : ∀ o o1 o2, (((w1.alloc o).alloc o1).alloc o2).frozen? ⟨w.heap.size, 0, none⟩ = false := fun o o1 o2 => (((e0.alloc o).alloc o1).alloc o2).frozen 0
 have f1'' : ∀ o o1 o2, (((w1.alloc o).alloc o1).alloc o2).frozen? ⟨w.heap.size, 1, none⟩ = false := fun o o1 o2 => (((e0.alloc o).alloc o1).alloc o2).frozen 1
 have HD1 := zaa hd1
 have HO1 := zaa hoW
 have HE0 := zaa e0
 have HE1 := zaa e1
 have HE2 := zaa e2
 rw [hz0] at c2
 clear hd1 ho1 hoW e0 e1 e2 hrow hno hown cell htk
 go_wp2
 refine wp_loop_rounds 1 ?_
 rw [rounds_succ]
 go_wp2_with fail
 have HB3 := zaa (show Below w1.heap.size w1 (((w1.alloc (.cells #[.int .i64 hd.slot, .int .u32 hd.gen, .int .i64 0, .int .u32 hd.rgen] 149)).alloc (.map #[] 0)).alloc (.cells #[.iface 23 (.pointer (some ⟨b, 0, none⟩)), .int .u32 hd.gen, .map (some (w1.heap.size + 1)), .int .i64 0] 231)) from (((Below.refl _ _).alloc (Nat.le_refl _) _).alloc (by simp) _).alloc (by simp; omega) _)
 have HO3 := zaa (show Only (fun x => x = w.heap.size) w1 ((((w1.alloc (.cells #[.int .i64 hd.slot, .int .u32 hd.gen, .int .i64 0, .int .u32 hd.rgen] 149)).alloc (.map #[] 0)).alloc (.cells #[.iface 23 (.pointer (some ⟨b, 0, none⟩)), .int .u32 hd.gen, .map (some (w1.heap.size + 1)), .int .i64 0] 231)).setCell ⟨w.heap.size, 1, none⟩ (.int .i64 0)) from Only.setCell (fp := fun x => x = w.heap.size) (p := ⟨w.heap.size, 1, none⟩) (Only.of_below HB3.out) (.inl rfl) _)
 have h3e : Blk ((((w1.alloc (.cells #[.int .i64 hd.slot, .int .u32 hd.gen, .int .i64 0, .int .u32 hd.rgen] 149)).alloc (.map #[] 0)).alloc (.cells #[.iface 23 (.pointer (some ⟨b, 0, none⟩)), .int .u32 hd.gen, .map (some (w1.heap.size + 1)), .int .i64 0] 231)).setCell ⟨w.heap.size, 1, none⟩ (.int .i64 0)) w.heap.size 88 #[.pointer none, .int .i64 0] := (HE0.out.below HB3.out HE0.out.lt).set_ 1 (.int .i64 0)
 have h3h : Blk ((((w1.alloc (.cells #[.int .i64 hd.slot, .int .u32 hd.gen, .int .i64 0, .int .u32 hd.rgen] 149)).alloc (.map #[] 0)).alloc (.cells #[.iface 23 (.pointer (some ⟨b, 0, none⟩)), .int .u32 hd.gen, .map (some (w1.heap.size + 1)), .int .i64 0] 231)).setCell ⟨w.heap.size, 1, none⟩ (.int .i64 0)) w1.heap.size 149 #[.int .i64 hd.slot, .int .u32 hd.gen, .int .i64 0, .int .u32 hd.rgen] := ((((Blk.new w1 _ _).alloc _).alloc _)).only (Only.set1 _ w.heap.size 1 (.int .i64 0)) (by omega)
 have hd3 := HD1.out.only HO3.out (fun x hx e => by have := H.out.lt hx; omega)
 refine (zgd (K + 2) b g base n cv (zbo m 2) bytes cache _ hd3 (zb9 HC.out 2).bad (by omega)).mono ?_
 rintro e w4 ⟨rfl, hd4, ho4⟩
 have hz4 : w1.heap.size + 1 + 1 + 1 <= w4.heap.size := by have := ho4.size; simpa using this
 have hgl : g < w.heap.size := H.out.blk.lt
 have i0 := h3e.only ho4 (by omega)
 have i1 := (HE1.out.only HO3.out (by omega)).only ho4 (by omega)
 have i2 := (HE2.out.only HO3.out (by omega)).only ho4 (by omega)
 have i3 := h3h.only ho4 (by omega)
 have ho5 := (HO1.out.mono (fq := fun x => x = b \/ x = g) (fun x _ h => .inl h)).trans' ((HO3.out.mono (fq := fun x => x = b \/ x = g \/ x = w.heap.size) (fun x _ h => .inr (.inr h))).trans (ho4.mono (fq := fun x => x = b \/ x = g \/ x = w.heap.size) (fun x _ h => h.imp id .inl))) (fun x hx h => by rcases h with h | h | h <;> omega)
 have d0 := zab i0 0 rfl
 have d1 := zab i0 1 rfl
 have d2 := zab i1 0 rfl
 have d3 := zab i2 0 rfl
 have d4 := zab i3 0 rfl
 have d5 := zab i3 1 rfl
 have d6 := zab i3 2 rfl
 have d7 := zab i3 3 rfl
 have f4 : w4.frozen? ⟨w.heap.size, 0, none⟩ = false := i0.frozen 0
 have f5 : w4.frozen? ⟨w.heap.size, 1, none⟩ = false := i0.frozen 1
 have f6 : w4.frozen? ⟨w.heap.size + 1, 0, none⟩ = false := i1.frozen 0
 have HD4 := zaa hd4
 have HO4 := zaa ho5
 have HI0 := zaa i0
 have HI1 := zaa i1
 clear hd3 hd4 ho4 i0 i1 i2 i3 ho5 hcur c0 c1 c2 c3 v0 v0' v0'' t0'' t1'' f0'' f1'' h3e h3h l0 lb lb2 lb3
 go_upto_region 13 with fail
 refine wp_region_noPanic ?_
 refine wp_region_held_drew (S := fun w' => w'.cell? ⟨w.heap.size + 1 + 1, 0, none⟩ = some (.iface 23 (.pointer (some ⟨b, 0, none⟩))) /\ w'.cell? ⟨w1.heap.size, 0, none⟩ = some (.int .i64 hd.slot) /\ w'.cell? ⟨w1.heap.size, 1, none⟩ = some (.int .u32 hd.gen) /\ w'.cell? ⟨w1.heap.size, 2, none⟩ = some (.int .i64 0) /\ w'.cell? ⟨w1.heap.size, 3, none⟩ = some (.int .u32 hd.rgen) /\ w'.cell? ⟨w.heap.size, 0, none⟩ = some (.pointer none) /\ w'.cell? ⟨w.heap.size, 1, none⟩ = some (.int .i64 0)) (by kernel_rfl) ⟨d3, d4, d5, d6, d7, d0, d1⟩ ?_
 intro hS0
 refine zac 0 (.agg #[.iface 23 (.pointer (some ⟨b, 0, none⟩))]) (some 46) rfl rfl (.inl ⟨rfl, fun w' hSw => by have s1 := hSw.1; clear hSw; go_simp⟩) hS0 ?_
 simp only [Act.put, n1, n2, n3]
 refine zac 1 (.agg #[.int .i64 hd.slot, .int .u32 hd.gen, .int .i64 0, .int .u32 hd.rgen]) (some 47) rfl rfl (.inl ⟨rfl, fun w' hSw => by obtain ⟨_, s1, s2, s3, s4, _⟩ := hSw; go_simp⟩) hS0 ?_
 simp only [Act.put, n1, n2, n3]
 refine zac 2 (.agg #[.iface 23 (.pointer (some ⟨b, 0, none⟩)), .int .i64 hd.slot, .int .u32 hd.gen, .int .i64 0, .int .u32 hd.rgen]) (some 48) rfl rfl (.inl ⟨rfl, fun w' hSw => by clear hSw; go_simp⟩) hS0 ?_
 simp only [Act.put, n1, n2, n3]
 refine zac 4 (.agg #[.pointer none, .int .i64 0]) (some 50) rfl rfl (.inl ⟨rfl, fun w' hSw => by obtain ⟨_, _, _, _, _, s1, s2⟩ := hSw; go_simp⟩) hS0 ?_
 simp only [Act.put, n1, n2, n3]
 refine zaw (i := 3) (by kernel_rfl) rfl rfl ?_
 go_simp
 have hS0 : (w4.alloc (.cells #[.iface 23 (.pointer (some ⟨b, 0, none⟩)), .int .i64 hd.slot, .int .u32 hd.gen, .int .i64 0, .int .u32 hd.rgen] 151)).drew.cell? ⟨w.heap.size + 1 + 1, 0, none⟩ = some (.iface 23 (.pointer (some ⟨b, 0, none⟩))) /\ (w4.alloc (.cells #[.iface 23 (.pointer (some ⟨b, 0, none⟩)), .int .i64 hd.slot, .int .u32 hd.gen, .int .i64 0, .int .u32 hd.rgen] 151)).drew.cell? ⟨w1.heap.size, 0, none⟩ = some (.int .i64 hd.slot) /\ (w4.alloc (.cells #[.iface 23 (.pointer (some ⟨b, 0, none⟩)), .int .i64 hd.slot, .int .u32 hd.gen, .int .i64 0, .int .u32 hd.rgen] 151)).drew.cell? ⟨w1.heap.size, 1, none⟩ = some (.int .u32 hd.gen) /\ (w4.alloc (.cells #[.iface 23 (.pointer (some ⟨b, 0, none⟩)), .int .i64 hd.slot, .int .u32 hd.gen, .int .i64 0, .int .u32 hd.rgen] 151)).drew.cell? ⟨w1.heap.size, 2, none⟩ = some (.int .i64 0) /\ (w4.alloc (.cells #[.iface 23 (.pointer (some ⟨b, 0, none⟩)), .int .i64 hd.slot, .int .u32 hd.gen, .int .i64 0, .int .u32 hd.rgen] 151)).drew.cell? ⟨w1.heap.size, 3, none⟩ = some (.int .u32 hd.rgen) /\ (w4.alloc (.cells #[.iface 23 (.pointer (some ⟨b, 0, none⟩)), .int .i64 hd.slot, .int .u32 hd.gen, .int .i64 0, .int .u32 hd.rgen] 151)).drew.cell? ⟨w.heap.size, 0, none⟩ = some (.pointer none) /\ (w4.alloc (.cells #[.iface 23 (.pointer (some ⟨b, 0, none⟩)), .int .i64 hd.slot, .int .u32 hd.gen, .int .i64 0, .int .u32 hd.rgen] 151)).drew.cell? ⟨w.heap.size, 1, none⟩ = some (.int .i64 0) := ⟨zaj _ d3, zaj _ d4, zaj _ d5, zaj _ d6, zaj _ d7, zaj _ d0, zaj _ d1⟩
 refine ⟨hS0, ?_⟩
 refine zac 5 (.pointer (some ⟨w4.heap.size, 0, none⟩)) (some 2) rfl rfl (.inl ⟨rfl, fun w' hSw => by clear hSw; go_simp⟩) hS0 ?_
 simp only [Act.put, n1, n2, n3]
 have j0 := HI0.out.alloc (.cells #[.iface 23 (.pointer (some ⟨b, 0, none⟩)), .int .i64 hd.slot, .int .u32 hd.gen, .int .i64 0, .int .u32 hd.rgen] 151)
 have j1 := HI1.out.alloc (.cells #[.iface 23 (.pointer (some ⟨b, 0, none⟩)), .int .i64 hd.slot, .int .u32 hd.gen, .int .i64 0, .int .u32 hd.rgen] 151)
 refine zaw (i := 6) (by kernel_rfl) rfl rfl ?_
 refine zc5 88 (.tmp 3) (.tmp 50) rfl w.heap.size 0 [.pointer none, .int .i64 0] rfl rfl 88 [.pointer none, .int .i64 0] j0.drew (Nat.le_refl _) zqg zqh ?_
 intro w5 hb5 hg5 hs5
 have hO5 : Only (fun x => x = w.heap.size) w4 w5 := Only.grown (((Only.refl _ _).alloc (.cells #[.iface 23 (.pointer (some ⟨b, 0, none⟩)), .int .i64 hd.slot, .int .u32 hd.gen, .int .i64 0, .int .u32 hd.rgen] 151)).drew) hg5 fun g' e => .inl (by injection e with e; exact e.symm)
 have hb5 : Blk w5 w.heap.size 88 #[.pointer none, .int .i64 0] := by rw [ze7 (L := [.pointer none, .int .i64 0]) (cs := [.pointer none, .int .i64 0]) rfl] at hb5; exact hb5
 have hD5 : Blk w5 w4.heap.size 151 #[.iface 23 (.pointer (some ⟨b, 0, none⟩)), .int .i64 hd.slot, .int .u32 hd.gen, .int .i64 0, .int .u32 hd.rgen] := (Blk.new w4 _ _).drew.grown hg5 (fun e => by injection e; omega)
 have q3 := (hO5.cell (p := ⟨w.heap.size + 1 + 1, 0, none⟩) (show w.heap.size + 1 + 1 < w4.heap.size by omega) (show ¬ (w.heap.size + 1 + 1 = w.heap.size) by omega)).trans d3
 have q4 := (hO5.cell (p := ⟨w1.heap.size, 0, none⟩) (show w1.heap.size < w4.heap.size by omega) (show ¬ (w1.heap.size = w.heap.size) by omega)).trans d4
 have q5 := (hO5.cell (p := ⟨w1.heap.size, 1, none⟩) (show w1.heap.size < w4.heap.size by omega) (show ¬ (w1.heap.size = w.heap.size) by omega)).trans d5
 have q6 := (hO5.cell (p := ⟨w1.heap.size, 2, none⟩) (show w1.heap.size < w4.heap.size by omega) (show ¬ (w1.heap.size = w.heap.size) by omega)).trans d6
 have q7 := (hO5.cell (p := ⟨w1.heap.size, 3, none⟩) (show w1.heap.size < w4.heap.size by omega) (show ¬ (w1.heap.size = w.heap.size) by omega)).trans d7
 have q0 := zab hb5 0 rfl
 have q1 := zab hb5 1 rfl
 have hS0 : w5.cell? ⟨w.heap.size + 1 + 1, 0, none⟩ = some (.iface 23 (.pointer (some ⟨b, 0, none⟩))) /\ w5.cell? ⟨w1.heap.size, 0, none⟩ = some (.int .i64 hd.slot) /\ w5.cell? ⟨w1.heap.size, 1, none⟩ = some (.int .u32 hd.gen) /\ w5.cell? ⟨w1.heap.size, 2, none⟩ = some (.int .i64 0) /\ w5.cell? ⟨w1.heap.size, 3, none⟩ = some (.int .u32 hd.rgen) /\ w5.cell? ⟨w.heap.size, 0, none⟩ = some (.pointer none) /\ w5.cell? ⟨w.heap.size, 1, none⟩ = some (.int .i64 0) := ⟨q3, q4, q5, q6, q7, q0, q1⟩
 refine ⟨hS0, ?_⟩
 change wpAnyH _ _ _ _ _ _ _ (Act.put _ none undef) _
 simp only [Act.put]
 have j1 : Blk w5 (w.heap.size + 1) 31 #[.nilIface] := (HI1.out).only hO5 (by omega)
 have k4 : w5.frozen? ⟨w.heap.size + 1, 0, none⟩ = false := j1.frozen 0
 have k5 := zab j1 0 rfl
 refine zaw (i := 7) (by kernel_rfl) rfl rfl ?_
 go_simp
 refine wpAnyH_done (by kernel_rfl) ?_ _
 refine NoPanic.normal ?_
 have HD5 := zaa hD5
 have HJ0 := zaa hb5
 have HJ1 := zaa j1
 have HO5 := zaa hO5
 have hz5 : w4.heap.size + 1 = w5.heap.size := by have := hs5; simpa using this.symm
 clear hD5 hb5 j1 hO5 hg5 hs5 hS0 j0
 go_wp2
 refine leaves_cons (f := 142) (args := #[.pointer (some ⟨w.heap.size + 1, 0, none⟩)]) (by simp) (by simp [go_sem]) ?_
 refine (ztl ⟨w.heap.size + 1, 0, none⟩ _).mono ?_
 rintro e u' w7 ⟨rfl, rfl, rfl⟩
 have oE := Only.set1 w5 (w.heap.size + 1) 0 .nilIface
 have r0 := zab (HJ0.out.only oE (by omega)) 0 rfl
 have r1 := zab (HJ0.out.only oE (by omega)) 1 rfl
 have r2 := zab (HJ1.out.set_ 0 .nilIface) 0 rfl
 refine ⟨.tuple #[.pointer (some ⟨w4.heap.size, 0, none⟩), .agg #[.pointer none, .int .i64 0], .nilIface], by simp [results, Tryz.results104, go_sem, r0, r1, r2], w4.heap.size, rfl, ?_, by omega, ?_, ?_⟩
 . have := HD5.out.only oE (by omega)
   have hcs : (#[.iface 23 (.pointer (some ⟨b, 0, none⟩))] : Array Value) ++ hd.cells = #[.iface 23 (.pointer (some ⟨b, 0, none⟩)), .int .i64 hd.slot, .int .u32 hd.gen, .int .i64 0, .int .u32 hd.rgen] := by
    unfold Hd.cells
    rw [hz0]
    rfl
   rw [hcs]
   exact this
 . have hlt : ∀ x, dfp b g (.slice none 0 0) x -> x < w.heap.size := fun x hx => by
     rcases hx with h | h | h
     . omega
     . omega
     . simp [Value.ownBlock] at h
   exact (HD4.out.only HO5.out fun x hx e => by have := hlt x hx; omega).only oE fun x hx e => by have := hlt x hx; omega
 . refine (HO4.out.trans' (HO5.out.mono (fq := fun x => x = b \/ x = g \/ x = w.heap.size) fun x _ h => .inr (.inr h)) (fun x hx h => by rcases h with h | h | h <;> omega)).setCell (p := ⟨w.heap.size + 1, 0, none⟩) (.inr (by simp)) _
end Go.Proofs.YtemondlgcmpbbaaGreatDoor
