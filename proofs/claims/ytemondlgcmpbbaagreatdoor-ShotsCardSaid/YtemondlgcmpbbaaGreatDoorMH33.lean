/- Fu Sf No Sh: merged. -/
import Derived.Test.YtemondlgcmpbbaaGreatDoorMH28
import Derived.Test.YtemondlgcmpbbaaGreatDoorMH09
import Derived.Test.YtemondlgcmpbbaaGreatDoorMH20
import Derived.RegionTactic
import Derived.BigRegion
import Derived.Test.YtemondlgcmpbbaaGreatDoorMH29
import Derived.Test.YtemondlgcmpbbaaGreatDoorMH18
import Derived.Test.YtemondlgcmpbbaaGreatDoorMH32
/- Walks: Put that is refused; Begin while one writes; Commit of one that reads. -/
namespace Go.Proofs.YtemondlgcmpbbaaGreatDoor
open Go.RowKit

set_option maxRecDepth 100000 in
set_option maxHeartbeats 1000000 in
theorem xput_no (t x c : Nat) (τ : TxS) (s : DbS) (k v : Str) (w : World) (hT : TxAt w t τ) (hD : DbAt w x s) (hx : τ.db = x) (hk : k.size ≤ 9223372036854775807) (hm : mayK s.poi τ.done true τ.write k = c) (hc : c ≠ 0) :
    Calls Tryz.prog 24 #[.pointer (some ⟨t, 0, none⟩), .string k, .string v] w fun e w' => ∃ f, e = .returned (faultV f) ∧ FaultAt w' f opPut c ∧ Below w.heap.size w w' := by
  have t0 : w.cell? ⟨t, 0, none⟩ = some (.pointer (some ⟨x, 0, none⟩)) := by rw [← hx]; exact cellOf hT 0 rfl
  have htx : t ≠ x := Blk.ne_ hT hD (by decide)
  have HL := hide (lock_at hD rfl)
  have HT := hide hT
  have HD := hide hD
  have HM0 := hide hm
  have HC := hide hc
  clear hT hD hm hc
  go_enter_defers Tryz.func24, Tryz.ntmps24
  go_wp2_with (first
    | (go_at_call 51; go_loud (
       refine HL.out.mono ?_; rintro e w1 ⟨rfl, hb1, ho1, hs1⟩
       have hT1 := HT.out.only ho1 htx
       have k0 : w1.cell? ⟨t, 0, none⟩ = some (.pointer (some ⟨x, 0, none⟩)) := by rw [← hx]; exact cellOf hT1 0 rfl
       have HM := hide (may1_any t x τ s 1 opPut k true w1.heap.size (w1.alloc (.cells #[.string k] 9)) (hT1.alloc _) (hb1.alloc _) hx (cellOf (Blk.new w1 9 #[.string k]) 0 rfl) hk)
       rw [HM0.out] at HM
       have HB1 := hide hb1
       have HO1 := hide ho1
       clear hT1 hb1 ho1 hs1))
    | (go_at_call 54; go_loud (
       unfold opPut at HM
       refine HM.out.mono ?_; rintro e w2 ⟨v, rfl, hb2, ha⟩
       obtain ⟨f, rfl, hf, hlf⟩ : ∃ f, v = faultV f ∧ FaultAt w2 f ⟨#[112, 117, 116]⟩ c ∧ (w1.alloc (.cells #[.string k] 9)).heap.size ≤ f := by
         rcases ha with h | h
         · exact absurd h.1 HC.out
         · exact h.2
       unfold faultV
       have HF := hide hf
       have HLF := hide hlf
       have HB2 := hide hb2
       clear ha hf hlf hb2)))
  have hb12 : Below w1.heap.size w1 w2 := ((Below.refl _ _).alloc (Nat.le_refl _) _).trans (HB2.out.mono (by simp))
  have hD2 := HB1.out.below hb12 HB1.out.lt
  have hne : f ≠ x := by have := HLF.out; have := HB1.out.lt; simp at *; omega
  refine leaves_cons (f := 52) (args := #[.pointer (some ⟨x, 0, none⟩)]) (by simp) (by simp [go_sem]) ?_
  refine (unlock_at .returning hD2 rfl).mono ?_
  rintro e u' w4 ⟨rfl, rfl, hb4, ho4, hs4⟩
  exact ⟨_, results_tmp rfl _ _ _, f, rfl, Blk.only HF.out ho4 hne, ((HO1.out.below hb12).trans ho4).back HD.out hb4⟩

def opBegin : ByteArray := ⟨#[98, 101, 103, 105, 110]⟩
set_option maxRecDepth 100000 in
set_option maxHeartbeats 1000000 in
theorem begin_busy (x : Nat) (a : Addr) (s : DbS) (w : World) (h : DbAt w x s) (hp : s.poi = false) (hw : s.writer = .pointer (some a)) :
    Calls Tryz.prog 22 #[.pointer (some ⟨x, 0, none⟩), .bool true] w fun e w' => ∃ f, e = .returned (.tuple #[.pointer none, faultV f]) ∧ FaultAt w' f opBegin 4 ∧ Below w.heap.size w w' := by
  obtain ⟨dk, root, keys, writer, rd, poi⟩ := s
  simp only at hp hw
  subst hp
  subst hw
  have HL := hide (lock_at h rfl)
  have HD := hide h
  clear h
  go_enter_defers Tryz.func22, Tryz.ntmps22
  go_wp2_with (first
    | (go_at_call 51; go_loud (
       refine HL.out.mono ?_; rintro e w1 ⟨rfl, hb1, ho1, hs1⟩
       have c5 : w1.cell? ⟨x, 5, none⟩ = some (.pointer (some a)) := cellOf hb1 5 rfl
       have c6 : w1.cell? ⟨x, 6, none⟩ = some (.map (some rd)) := cellOf hb1 6 rfl
       have c7 : w1.cell? ⟨x, 7, none⟩ = some (.bool false) := cellOf hb1 7 rfl
       have HB1 := hide hb1
       have HO1 := hide ho1
       clear hb1 ho1 hs1))
    | (go_at_call 53; go_loud (
       refine (fail_any _ _ _).mono ?_; rintro e w2 ⟨rfl, hw2⟩
       have hb2 : Below w1.heap.size w1 w2 := by rw [hw2]; exact (Below.refl _ _).alloc (Nat.le_refl _) _
       have hF2 : FaultAt w2 w1.heap.size opBegin 4 := by rw [hw2]; exact Blk.new _ _ _
       unfold faultV
       have HF := hide hF2
       have HB2 := hide hb2
       clear hw2 hb2 hF2)))
  have hD2 := HB1.out.below HB2.out HB1.out.lt
  have hne : w1.heap.size ≠ x := by have := HB1.out.lt; omega
  refine leaves_cons (f := 52) (args := #[.pointer (some ⟨x, 0, none⟩)]) (by simp) (by simp [go_sem]) ?_
  refine (unlock_at .returning hD2 rfl).mono ?_
  rintro e u' w4 ⟨rfl, rfl, hb4, ho4, hs4⟩
  exact ⟨_, results_tmp2 rfl _ _ _, w1.heap.size, rfl, Blk.only HF.out ho4 hne, ((HO1.out.below HB2.out).trans ho4).back HD.out hb4⟩

set_option maxRecDepth 100000 in
set_option maxHeartbeats 1000000 in
theorem commit_rd (t x : Nat) (τ : TxS) (s : DbS) (ks : List Nat) (w : World) (hT : TxAt w t τ) (hD : DbAt w x s) (hx : τ.db = x) (hwr : τ.write = false) (hr : RdAt w s.rd ks) (hk : ∀ k ∈ ks, TxB w k) (hok : mayC s.poi τ.done false τ.write = 0) :
    Calls Tryz.prog 26 #[.pointer (some ⟨t, 0, none⟩)] w fun e w' => e = .returned .nilIface ∧ TxAt w' t τ.over ∧ DbAt w' x (s.ended τ.write) ∧ RdAt w' s.rd (ks.erase t) ∧ Only (fun y => y = t ∨ y = x ∨ y = s.rd) w w' := by
  have t0 : w.cell? ⟨t, 0, none⟩ = some (.pointer (some ⟨x, 0, none⟩)) := by rw [← hx]; exact cellOf hT 0 rfl
  have htx : t ≠ x := Blk.ne_ hT hD (by decide)
  have hrt : s.rd ≠ t := hr.ne_blk hT
  have hrx : s.rd ≠ x := hr.ne_blk hD
  have HL := hide (lock_at hD rfl)
  have HT := hide hT
  have HR := hide hr
  have HK := hide (fun W (ho : Only (· = x) w W) => txb_only hk ho (.inr (not_txb hD (by decide))))
  have HOK := hide hok
  have HWR := hide hwr
  clear hT hD hr hk hok hwr
  go_enter_defers Tryz.func26, Tryz.ntmps26
  go_wp2_with (first
    | (go_at_call 51; go_loud (
       refine HL.out.mono ?_; rintro e w1 ⟨rfl, hb1, ho1, hs1⟩
       have hT1 := HT.out.only ho1 htx
       have k0 : w1.cell? ⟨t, 0, none⟩ = some (.pointer (some ⟨x, 0, none⟩)) := by rw [← hx]; exact cellOf hT1 0 rfl
       have HM := hide (may0_any t x τ s 1 ⟨#[99, 111, 109, 109, 105, 116]⟩ false w1 hT1 hb1 hx)
       have HE := hide (end_any t x τ s 1 ks w1 hT1 hb1 hx (HR.out.only ho1 hrx) (HK.out _ ho1))
       rw [HOK.out] at HM
       have HO1 := hide ho1
       clear hT1 hb1 ho1 hs1))
    | (go_at_call 54; go_loud (
       refine HM.out.mono ?_; rintro e w' ⟨v, rfl, ha⟩
       obtain ⟨rfl, rfl⟩ : v = .nilIface ∧ w1 = w' := by
         rcases ha.2 with h | h
         · exact ⟨h.2.1, h.2.2⟩
         · exact absurd rfl h.1
       clear ha))
    | (go_at_call 59; go_loud (
       refine HE.out.mono ?_; rintro e w2 ⟨rfl, hT2, hD2, hR2, ho2⟩
       have m3 : w2.cell? ⟨t, 3, none⟩ = some (.bool false) := by rw [← HWR.out]; exact cellOf hT2 3 rfl
       have HT2 := hide hT2
       have HD2 := hide hD2
       have HR2 := hide hR2
       have HO2 := hide ho2
       clear hT2 hD2 hR2 ho2)))
  refine leaves_cons (f := 52) (args := #[.pointer (some ⟨x, 0, none⟩)]) (by simp) (by simp [go_sem]) ?_
  refine (unlock_at .returning HD2.out rfl).mono ?_
  rintro e u' w4 ⟨rfl, rfl, hb4, ho4, hs4⟩
  refine ⟨_, results_tmp rfl _ _ _, rfl, Blk.only HT2.out ho4 htx, hb4, HR2.out.only ho4 hrx, ?_⟩
  exact Only.trans ((HO1.out.mono fun _ _ h => .inr (.inl h)).trans HO2.out) (ho4.mono fun _ _ h => .inr (.inl h))
end Go.Proofs.YtemondlgcmpbbaaGreatDoor

/- Walks: Scan of a transaction that may not look any more. -/
namespace Go.Proofs.YtemondlgcmpbbaaGreatDoor
open Go.RowKit Go.Shelf

attribute [local go_sem] Oper.semAt_some

def encF (f : Nat) : Array Value := #[.agg #[.string ⟨#[]⟩, .string ⟨#[]⟩], .iface 128 (.pointer (some ⟨f, 0, none⟩))]

set_option maxRecDepth 100000 in
set_option maxHeartbeats 1600000 in
theorem all1_err (t x b0 b1 b2 k : Nat) (τ : TxS) (s : DbS) (J Jx : List Nat → World → Prop) (Kp : World → World → Prop) (W : World) (hT : TxAt W t τ) (hD : DbAt W x s) (hx : τ.db = x) (q : Option Addr) (hq : τ.root = .pointer q) (hno : mayC s.poi τ.done false τ.write ≠ 0)
    (h0 : Blk W b0 29 #[.pointer (some ⟨t, 0, none⟩)]) (hJ : AbidesFrom W.heap.size J) (hJ0 : J [] W)
    (hY : ∀ f W1, J [] W1 → YieldAt Fence.wide 2 Tryz.prog k (encF f) W1 fun e W' => (e = .returned (.bool true) ∧ J [f] W' ∧ Kp W1 W') ∨ (e = .returned (.bool false) ∧ Jx [f] W')) :
    Calls Tryz.prog 140 #[.func (.yield k) #[] #[], .pointer (some ⟨b0, 0, none⟩), .pointer (some ⟨b1, 0, none⟩), .pointer (some ⟨b2, 0, none⟩)] W fun e W' => (∃ v, e = .returned v) ∧ ((∃ xs : List Nat, (∃ f, xs = [f]) ∧ J xs W') ∨ ∃ pre : List Nat, (∃ f, pre = [f]) ∧ Jx pre W') := by
  have hbA := (Below.refl W.heap.size W).alloc (Nat.le_refl _) (.cells #[.func (.yield k) #[] #[]] 226)
  have c0 := fun o => cellA o (cellOf h0 0 rfl)
  have HS := hide (see_any t x τ s ⟨#[97, 108, 108]⟩ _ (hT.below hbA hT.lt) (hD.below hbA hD.lt) hx q hq)
  rw [hq] at HS
  have HD := hide (hD.below hbA hD.lt)
  have HB := hide hbA
  have HYB := hide (Blk.new W 226 #[.func (.yield k) #[] #[]])
  have HJ := hide (fun W' (h : Below W.heap.size W W') => hJ [] W W' none hJ0 (Below.grown h) (fun r e => by cases e))
  have HY := hide hY
  have HNO := hide hno
  clear hT hD h0 hbA hJ hJ0 hY hno
  refine (callsIn_wide (n := 3)).1 ?_
  refine callsIn_of_wp Tryz.func140 rfl trivial ?_ rfl
  simp only [Tryz.ntmps140, List.size_toArray, List.length_cons, List.length_nil, Nat.reduceAdd, Nat.reduceSub, Array.replicate_succ, Array.replicate_zero, List.push_toArray, List.append_toArray, List.nil_append, List.cons_append]
  gi_wp2_with (refine ⟨trivial, ?_⟩; gi_at_call 66; go_loud (
     refine (callsIn_wide.2 HS.out).mono ?_; rintro e w1 ⟨v, rfl, hv, hd1, ht1, ho1⟩
     have hb1 := ho1.back HD.out hd1
     obtain ⟨f, rfl⟩ : ∃ f, v = faultV f := by
       rcases hv with h | ⟨_, f, h, _⟩
       · exact absurd h.1 HNO.out
       · exact ⟨f, h⟩
     have hy1 := HYB.out.below hb1 HYB.out.lt
     have e1 := cellOf hy1 0 rfl
     have e1' := fun o => cellA o e1
     have hbw : Below W.heap.size W w1 := HB.out.trans (hb1.mono (by simp))
     unfold faultV
     obtain ⟨fn, tmps, assign, body, hy, hR⟩ := HY.out f (w1.alloc (.cells #[.pointer q, .int .i64 τ.keys] 88)) (HJ.out _ (hbw.alloc hbw.size _))
     unfold encF at hy
     clear hv hd1 ht1 ho1 hb1 hy1 hbw))
  refine hR.mono ?_
  rintro e W3 (⟨rfl, h, -⟩ | ⟨rfl, h⟩)
  · gi_wp2
    exact bodyPost_ret (results_none rfl _ _ _) rfl ⟨⟨_, rfl⟩, .inl ⟨[f], ⟨f, rfl⟩, h⟩⟩
  · gi_wp2
    exact bodyPost_ret (results_none rfl _ _ _) rfl ⟨⟨_, rfl⟩, .inr ⟨[f], ⟨f, rfl⟩, h⟩⟩
set_option maxRecDepth 100000 in
set_option maxHeartbeats 2000000 in
theorem scan_err (t x : Nat) (τ : TxS) (s : DbS) (lo hi : ByteArray) (most : Int) (hm : 0 < most) (w : World) (hT : TxAt w t τ) (hD : DbAt w x s) (hx : τ.db = x) (q : Option Addr) (hq : τ.root = .pointer q) (hno : mayC s.poi τ.done false τ.write ≠ 0) :
    Calls Tryz.prog 64 #[.pointer (some ⟨t, 0, none⟩), .string lo, .string hi, .int .i64 most] w fun e w' => (∃ f, e = .returned (.tuple #[.slice none 0 0, faultV f])) ∧ Below w.heap.size w w' := by
  have hml : ¬ most < 1 := by omega
  refine (callsIn_wide (n := 3)).1 ?_
  refine callsIn_of_wp_marks Tryz.func64 rfl trivial ?_ rfl
  simp only [Tryz.ntmps64, List.size_toArray, List.length_cons, List.length_nil, Nat.reduceAdd, Nat.reduceSub, Array.replicate_succ, Array.replicate_zero, List.push_toArray, List.append_toArray, List.nil_append, List.cons_append]
  gi_wp2_with (refine ⟨trivial, ?_⟩; gi_at_call 102; refine (callsIn_wide.2 (all_any t lo hi _)).mono ?_; rintro e w' ⟨rfl, rfl⟩)
  obtain ⟨W0, hW0⟩ : ∃ W0, W0 = ((((((w.alloc (.cells #[.int .i64 most] 3)).alloc (.cells #[.slice none 0 0] 39)).alloc (.cells #[.nilIface] 31)).alloc (.cells #[.slice none 0 0] 39)).alloc (.cells #[.pointer (some ⟨t, 0, none⟩)] 29)).alloc (.cells #[.string lo] 9)).alloc (.cells #[.string hi] 9) := ⟨_, rfl⟩
  have hz : W0.heap.size = w.heap.size + 7 := by rw [hW0]; simp only [World.size_alloc]
  have hbel : Below w.heap.size w W0 := by
    rw [hW0]
    exact ((((((((Below.refl w.heap.size w).alloc (by simp) _).alloc (by simp) _).alloc (by simp; omega) _).alloc (by simp; omega) _).alloc (by simp; omega) _).alloc (by simp; omega) _).alloc (by simp; omega) _)
  have hR0 : Blk W0 w.heap.size 3 #[.int .i64 most] := by
    rw [hW0]
    exact ((((((Blk.new w _ _).alloc _).alloc _).alloc _).alloc _).alloc _).alloc _
  have hR1 : Blk W0 (w.heap.size + 1) 39 #[.slice none 0 0] := by
    rw [hW0]
    exact (((((Blk.new2 w _ _ _).alloc _).alloc _).alloc _).alloc _).alloc _
  have hR2 : Blk W0 (w.heap.size + 1 + 1) 31 #[.nilIface] := by
    rw [hW0]
    have := Blk.new2 (w.alloc (.cells #[.int .i64 most] 3)) (.cells #[.slice none 0 0] 39) 31 #[.nilIface]
    rw [World.size_alloc] at this
    exact (((this.alloc _).alloc _).alloc _).alloc _
  have hR3 : Blk W0 (w.heap.size + 1 + 1 + 1) 39 #[.slice none 0 0] := by
    rw [hW0]
    have := Blk.new (((w.alloc (.cells #[.int .i64 most] 3)).alloc (.cells #[.slice none 0 0] 39)).alloc (.cells #[.nilIface] 31)) 39 #[.slice none 0 0]
    simp only [World.size_alloc] at this
    exact ((this.alloc _).alloc _).alloc _
  have hB0 : Blk W0 (w.heap.size + 1 + 1 + 1 + 1) 29 #[.pointer (some ⟨t, 0, none⟩)] := by
    rw [hW0]
    have := Blk.new ((((w.alloc (.cells #[.int .i64 most] 3)).alloc (.cells #[.slice none 0 0] 39)).alloc (.cells #[.nilIface] 31)).alloc (.cells #[.slice none 0 0] 39)) 29 #[.pointer (some ⟨t, 0, none⟩)]
    simp only [World.size_alloc] at this
    exact (this.alloc _).alloc _
  have hB1 : Blk W0 (w.heap.size + 1 + 1 + 1 + 1 + 1) 9 #[.string lo] := by
    rw [hW0]
    have := Blk.new (((((w.alloc (.cells #[.int .i64 most] 3)).alloc (.cells #[.slice none 0 0] 39)).alloc (.cells #[.nilIface] 31)).alloc (.cells #[.slice none 0 0] 39)).alloc (.cells #[.pointer (some ⟨t, 0, none⟩)] 29)) 9 #[.string lo]
    simp only [World.size_alloc] at this
    exact this.alloc _
  have hB2 : Blk W0 (w.heap.size + 1 + 1 + 1 + 1 + 1 + 1) 9 #[.string hi] := by
    rw [hW0]
    have := Blk.new ((((((w.alloc (.cells #[.int .i64 most] 3)).alloc (.cells #[.slice none 0 0] 39)).alloc (.cells #[.nilIface] 31)).alloc (.cells #[.slice none 0 0] 39)).alloc (.cells #[.pointer (some ⟨t, 0, none⟩)] 29)).alloc (.cells #[.string lo] 9)) 9 #[.string hi]
    simp only [World.size_alloc] at this
    exact this
  have hT0 := hT.below hbel hT.lt
  have hD0 := hD.below hbel hD.lt
  rw [← hW0]
  refine wpIn_rangeFunc_ownH (α := Nat) rfl (by omega) (gf := 140) (lb := #[.pointer (some ⟨w.heap.size + 1 + 1 + 1 + 1, 0, none⟩), .pointer (some ⟨w.heap.size + 1 + 1 + 1 + 1 + 1, 0, none⟩), .pointer (some ⟨w.heap.size + 1 + 1 + 1 + 1 + 1 + 1, 0, none⟩)]) rfl trivial (enters_of Tryz.func140 (by kernel_rfl) rfl)
    (encs := encF) (Kp := fun _ _ => True) (S := fun xs => ∃ f, xs = [f]) (Sp := fun xs => ∃ f, xs = [f]) (N := 1) (w0 := W0) ?hseq (fun _ _ => trivial) (fun _ _ _ _ _ _ _ _ => trivial) (Below.refl _ _) (fun _ => rfl)
    (fun pre W => pre = [] ∧ Blk W (w.heap.size + 1) 39 #[.slice none 0 0] ∧ Blk W (w.heap.size + 1 + 1) 31 #[.nilIface] ∧ Below w.heap.size w W ∧ W0.heap.size ≤ W.heap.size)
    (fun c pre W => c = .ret ∧ ∃ f, pre = [f] ∧ Blk W (w.heap.size + 1) 39 #[.slice none 0 0] ∧ Blk W (w.heap.size + 1 + 1) 31 #[faultV f] ∧ Below w.heap.size w W ∧ W0.heap.size ≤ W.heap.size) ?hI ?hIx ⟨rfl, hR1, hR2, hbel, Nat.le_refl _⟩
    (fun y a' W => ∃ Bx, W0.heap.size ≤ Bx ∧ Blk W Bx 68 #[.string ⟨#[]⟩, .string ⟨#[]⟩] ∧ a' = { tmps := #[.pointer (some ⟨t, 0, none⟩), .string lo, .string hi, .int .i64 most, undef, undef, undef, .pointer (some ⟨w.heap.size, 0, none⟩), .pointer (some ⟨w.heap.size + 1, 0, none⟩), .pointer (some ⟨w.heap.size + 1 + 1, 0, none⟩), .pointer (some ⟨w.heap.size + 1 + 1 + 1, 0, none⟩), .pointer (some ⟨Bx, 0, none⟩), .iface 128 (.pointer (some ⟨y, 0, none⟩)), .int .i64 most, .bool false, .pointer (some ⟨t, 0, none⟩), .string lo, .string hi, .func (.func 140) #[] #[.pointer (some ⟨w.heap.size + 1 + 1 + 1 + 1, 0, none⟩), .pointer (some ⟨w.heap.size + 1 + 1 + 1 + 1 + 1, 0, none⟩), .pointer (some ⟨w.heap.size + 1 + 1 + 1 + 1 + 1 + 1, 0, none⟩)], .agg #[.string ⟨#[]⟩, .string ⟨#[]⟩], .iface 128 (.pointer (some ⟨y, 0, none⟩)), undef, undef, undef, undef, undef, undef, undef, undef, undef, undef, undef, undef], defers := [] })
    ?hAx ?hassign ?hbody ?done ?stop
  case hseq =>
    intro l J Jx W hW hJ hJx hY h0
    exact callsIn_wide.2 ((all1_err t x _ _ _ l τ s J Jx _ W (hT0.below hW hT0.lt) (hD0.below hW hD0.lt) hx q hq hno (hB0.below hW hB0.lt) hJ h0 (fun f W1 hj => YieldAt.any rfl 2 (hY [] f W1 hj (by simp)))).mono fun e W' h => h)
  case hI =>
    rintro pre W W' row ⟨h0, h2, h3, hB, hsz⟩ hg hr
    have hr' := fun r e => (hr r e).2
    exact ⟨h0, blk_kept h2 hg hr', blk_kept h3 hg hr', hB.grown hg hB.size fun k e => (by have := (hr k e).1; omega), Nat.le_trans hsz hg.size⟩
  case hIx =>
    rintro c pre W W' row ⟨hc, f, h0, h2, h3, hB, hsz⟩ hg hr
    have hr' := fun r e => (hr r e).2
    exact ⟨hc, f, h0, blk_kept h2 hg hr', blk_kept h3 hg hr', hB.grown hg hB.size fun k e => (by have := (hr k e).1; omega), Nat.le_trans hsz hg.size⟩
  case hAx =>
    rintro y a' u W W' row ⟨Bx, h1, h2, h3⟩ hg hr
    exact ⟨Bx, h1, blk_kept h2 hg (fun r e => (hr r e).2), h3⟩
  case hassign =>
    rintro l pre y W K ⟨h0, h2, h3, hB, hsz⟩ hK
    have hA := (Below.refl W.heap.size W).alloc (Nat.le_refl _) (.cells #[.string ⟨#[]⟩, .string ⟨#[]⟩] 68)
    have hX := Blk.new W 68 #[.string ⟨#[]⟩, .string ⟨#[]⟩]
    unfold encF
    gi_wp2
    exact hK _ _ ((KeepsOthers.alloc _ _).from _) trivial ⟨h0, h2.alloc _, h3.alloc _, hB.trans (hA.mono hB.size), Nat.le_trans hsz hA.size⟩ ⟨_, hsz, hX, rfl⟩
  case hbody =>
    rintro l pre y a' W hl ⟨r, hr⟩ ⟨h0, h2, h3, hB, hsz⟩ ⟨Bx, hBx, bX, rfl⟩ hlt
    subst h0
    have c2 := cellOf h2 0 rfl
    have c3 := cellOf h3 0 rfl
    have f2 := h2.frozen 0
    have f3 := h3.frozen 0
    have H2 := hide h2
    have H3 := hide h3
    clear hr h2 h3 bX
    gi_wp2
    have hb2 : Below w.heap.size w ((W.setCell ⟨w.heap.size + 1, 0, none⟩ (.slice none 0 0)).setCell ⟨w.heap.size + 1 + 1, 0, none⟩ (.iface 128 (.pointer (some ⟨y, 0, none⟩)))) := (hB.setCell (p := ⟨w.heap.size + 1, 0, none⟩) (by simp) _).setCell (p := ⟨w.heap.size + 1 + 1, 0, none⟩) (by simp; omega) _
    exact ⟨((KeepsOthers.setCell _ _ _).trans (KeepsOthers.setCell _ _ _)).from _, rfl, y, rfl, (H2.out.set_ 0 _).far (p := ⟨w.heap.size + 1 + 1, 0, none⟩) (by simp) _, (H3.out.far (p := ⟨w.heap.size + 1, 0, none⟩) (by simp) _).set_ 0 _, hb2, Nat.le_trans hsz (by simp [World.setCell])⟩
  case done =>
    rintro D ys W hDs ⟨f, rfl⟩ ⟨h0, _⟩ hK
    cases h0
  case stop =>
    rintro D c pre W hDs hp ⟨rfl, f, rfl, h2, h3, hB, hsz⟩ hK
    gi_wp2
    refine ⟨by simp, .inl ⟨_, _, rfl, run_takeDeferred hK, ?_⟩⟩
    have g := grownBy_putObj' W D (.deferred none)
    have d1 := cell_kept (cellOf h2 0 rfl) g (fun r e => by cases e; exact ⟨_, hK, rfl⟩)
    have d2 := cell_kept (cellOf h3 0 rfl) g (fun r e => by cases e; exact ⟨_, hK, rfl⟩)
    refine ⟨.tuple #[.slice none 0 0, faultV f], by simp [results, Tryz.results64, go_sem, d1, d2], ⟨f, rfl⟩, ?_⟩
    exact ⟨g.os.trans hB.os, g.tape.trans hB.tape, g.output.trans hB.output, Nat.le_trans hB.size g.size, fun y hy => (g.block y (Nat.lt_of_lt_of_le hy hB.size) (fun e => by injection e; omega)).trans (hB.block y hy)⟩

theorem kall_err (t x : Nat) (τ : TxS) (s : DbS) (w : World) (hT : TxAt w t τ) (hD : DbAt w x s) (hx : τ.db = x) (q : Option Addr) (hq : τ.root = .pointer q) (hno : mayC s.poi τ.done false τ.write ≠ 0) :
    Calls Tryz.prog 32 #[.pointer (some ⟨t, 0, none⟩)] w fun e w' => e = .returned (.tuple #[.slice none 0 0, .bool false]) ∧ Below w.heap.size w w' := by
  have HS := hide (scan_err t x τ s ByteArray.empty ⟨#[255, 255, 255, 255, 255, 255, 255, 255, 255]⟩ 1048576 (by decide) w hT hD hx q hq hno)
  clear hT hD
  go_enter Tryz.func32, Tryz.ntmps32
  go_wp2_with (go_at_call 64; go_loud (
     refine HS.out.mono ?_; rintro e w1 ⟨⟨f, rfl⟩, hb⟩
     unfold faultV
     have HB := hide hb
     clear hb))
  go_region
  go_wp2
  go_ret2
  exact ⟨rfl, HB.out.drew⟩
end Go.Proofs.YtemondlgcmpbbaaGreatDoor

/- Walks: Abort, where something stands against it. -/
namespace Go.Proofs.YtemondlgcmpbbaaGreatDoor
open Go.RowKit

def opAbort : ByteArray := ⟨#[97, 98, 111, 114, 116]⟩
end Go.Proofs.YtemondlgcmpbbaaGreatDoor

/- Walks: shadowkeep.Shots. -/
namespace Go.Proofs.YtemondlgcmpbbaaGreatDoor
open Go.RowKit

theorem ptr_of {ok : Nat → Prop} {w : World} {t : Tree} {rp : Value} {ds : List Nat} (h : TreeV ok w t rp ds) : ∃ q, rp = .pointer q := by
  rcases h with ⟨_, rfl, _⟩ | ⟨_, _, _, _, rfl, _⟩
  · exact ⟨_, rfl⟩
  · exact ⟨_, rfl⟩

set_option maxRecDepth 100000 in
set_option maxHeartbeats 4000000 in
theorem shots_any (a b c : Int) (w : World) (ha : I64 a) (_hb : I64 b) (hc : I64 c) (hgl : Glob w) :
    Calls Tryz.prog 5 #[.int .i64 a, .int .i64 b, .int .i64 c] w fun e w' => e = .returned (.bool true) ∧ Below w.heap.size w w' := by
  have HBE := hide (begun_any 300 a w (by omega) ha)
  have HPK := hide (fun W => pickk_fn c 12 W hc (by omega) (by omega))
  have hpl := pickN_lt c 12 (by omega)
  obtain ⟨p, hp⟩ : ∃ p, p = pickN c 12 := ⟨_, rfl⟩
  rw [← hp] at HPK hpl
  have hp1 : IntKind.i64.wrap (1 + (p : Int)) = ((1 + p : Nat) : Int) := by rw [IntKind.wrap_i64]; omega
  have HPL := hide hpl
  have HGL := hide hgl
  clear hp hpl hgl ha _hb hc
  go_enter Tryz.func5, Tryz.ntmps5
  go_wp2_with (first
    | (go_at_call 28; go_loud (
       refine HBE.out.mono ?_; rintro e w1 ⟨d, x, v1, K, T, r, rfl, hK, hs1, hg1, hd1, hf1, hrow1, hb1⟩
       have HB1 := hide (sr_beginR hs1 (by decide))
       have HG1 := hide hg1
       have HF1 := hide hf1
       have HR1 := hide hrow1
       have HK0 := hide hK
       have HW1 := hide hb1
       clear hK hs1 hg1 hd1 hf1 hrow1 hb1))
    | (go_at_call 22; go_loud (
       refine HB1.out.mono ?_; rintro e w2 ⟨t, rfl, hs2, -, -, hk2⟩
       rw [List.nil_append] at hs2
       have hs2 := hs2.more (K' := 300) HK0.out
       have HR2 := hide (HR1.out.kp hk2)

       have HS2 := hide hs2
       have HW2 := hide (HW1.out.trans hk2.1)
       clear hs2 hk2)))
  obtain ⟨ρ, hρ, hρt, hρT, hgρ⟩ : ∃ ρ : Rdr, ρ = ⟨t, T, r.rp⟩ ∧ ρ.t = t ∧ ρ.T = T ∧ Good V21 ρ.T := ⟨_, rfl, rfl, rfl, HG1.out⟩
  have HS2' := hide HS2.out
  rw [← hρ] at HS2'
  have HE := hide hρt
  have HET := hide hρT
  have HGP := hide hgρ
  clear hρ hρt hρT hgρ HS2
  go_loopw [12] (fun i wr => ∃ j : Nat, j ≤ 3 ∧ i = .int .i64 j ∧ (∃ T' r', StoreR w.heap.size wr (300 + 200 * j) d 300 x (2 + j) (.pointer none) T' r' [ρ] ∧ Good V21 T' ∧ HasF T') ∧ KpP w.heap.size w2 wr) (fun i _ => 3 - (intOf i).toNat)
  case atStart => exact ⟨0, Nat.zero_le _, rfl, ⟨T, r, HS2'.out, HG1.out, HF1.out⟩, KpP.refl _ _⟩
  case round =>
    obtain ⟨j, hj, rfl, ⟨T', r', hs, hg, hf⟩, hk⟩ := hrel
    by_cases hlt : j < 3
    · have hlt' : (j : Int) < 3 := by omega
      have hib : I64 (wrap64 (b + (j : Int))) := by unfold wrap64 I64; omega
      have hcp : ((1 + p : Nat) : Int) = 1 + (p : Int) := by push_cast; rfl
      have HWR := hide (writing_chg (wrap64 (b + (j : Int))) (1 + p) hib (by have := HPL.out; omega) hs hg (by decide))
      have HG := hide hg
      have HF := hide hf
      have HK := hide hk
      rw [hcp] at HWR
      clear hib hs hg hf hk hcp
      go_wp2_with (first
        | (go_at_call 18; go_loud (refine (HPK.out _).mono ?_; rintro e w' ⟨rfl, rfl⟩))
        | (go_at_call 29; go_loud (
           refine HWR.out.mono ?_; rintro e w3 ⟨u, m, T2, rp2, ds2, st2, rfl, hs3, ht3, hg3, hr3, hk3, hf3⟩
           have HBY := hide (begin_busy x _ _ w3 hs3.db rfl rfl)
           have HS3 := hide hs3
           have HT3 := hide ht3
           have HG3 := hide hg3
           have HM3 := hide hr3
           have HF3 := hide (hf3 HF.out)
           have HK3 := hide (HK.out.trans hk3)
           clear hs3 ht3 hg3 hr3 hk3 hf3))
        | (go_at_call 22; go_loud (
           refine HBY.out.mono ?_; rintro e w4 ⟨f, rfl, hf4, hb4⟩
           have hk4 := HK3.out.trans (KpP.of_below hb4 HS3.out.size)
           have HTD := hide (told_fault f 4 _ w4 hf4 (HGL.out.below (HW2.out.trans hk4.1)))
           have HS4 := hide (HS3.out.below hb4)
           have HT4 := hide (HT3.out.below hb4)
           have HM4 := hide (HM3.out.kp (KpP.of_below hb4 HS3.out.size))
           have HK4 := hide hk4
           clear hf4 hb4 hk4))
        | (go_at_call 30; go_loud (
           refine HTD.out.mono ?_; rintro e w5 ⟨rfl, hb5⟩
           have hs5 := HS4.out.below hb5
           have hk5 := KpP.of_below hb5 HS4.out.size
           have HNW := hide (know_any hs5 (by simp) HG.out.tr HG.out.pairs HG.out.key8)
           have HT5 := hide (HT4.out.below hb5)
           have HM5 := hide (HM4.out.kp hk5)
           have HK5 := hide (HK4.out.trans hk5)
           clear hs5 hb5 hk5))
        | (go_at_call 31; go_loud (first
           | (refine HNX.out.mono ?_; rintro e w8 ⟨v8, rfl, hrow8, hs8, -, hk8⟩
              obtain ⟨q1, q2, q3⟩ := hs8.rds ρ (by simp)
              have HAL := hide (kall_any ρ.t x _ _ ρ.T [] w8 q1 hs8.db rfl rfl rfl q2 HGP.out.tr HGP.out.pairs HGP.out.key8)
              rw [HE.out] at HAL
              have HS8 := hide hs8
              have HV8 := hide hrow8
              have HM8 := hide (HM7.out.kp hk8)
              have HK8 := hide (HK7.out.trans hk8)
              clear hrow8 hs8 hk8 q1 q2 q3)
           | (refine HNW.out.mono ?_; rintro e w6 ⟨v6, rfl, hrow6, hs6, ht6, hk6⟩
              obtain ⟨A6, c6, rfl⟩ := hrow6.form
              have hl0 : ¬ (T'.pairs.length : Int) = 0 := by have := HF.out.ne; have := mt List.length_eq_zero_iff.1 this; omega
              have hl1 : ((T'.pairs.length : Int) == 0) = false := by simpa using hl0
              have HC := hide (sr_commitR hs6 (ht6 _ _ _ _ _ _ HT5.out) HG3.out HG.out HGP.out (by decide) (by omega) (Nat.lt_of_le_of_lt (Nat.add_le_add_right (Nat.add_le_add_left (Nat.mul_le_mul_left 200 hj) 300) 200) (by decide)) (by have := HG3.out.keys21; have := HG.out.keys21; have := HGP.out.keys21; omega) (by have := HG3.out.dirty_le; omega))
              have HM6 := hide (HM5.out.kp hk6)
              have HK6 := hide (HK5.out.trans hk6)
              clear hrow6 hs6 ht6 hk6)))
        | (go_at_call 26; go_loud (
           refine HC.out.mono ?_; rintro e w7 ⟨rfl, ⟨T7, r7, hs7, hg7, -, hp7, -⟩, hk7⟩
           have HNX := hide (know_any hs7 (by simp) hg7.tr hg7.pairs hg7.key8)
           have HG7 := hide hg7
           have HP7 := hide hp7
           have HF7 := hide (HF3.out.same hp7)
           have HM7 := hide (HM6.out.kp hk7)
           have HK7 := hide (HK6.out.trans hk7)
           clear hs7 hg7 hp7 hk7))
        | (go_at_call 32; go_loud (
           refine HAL.out.mono ?_; rintro e w9 ⟨v9, rfl, hrow9, hb9⟩
           have hk9 := KpP.of_below hb9 HS8.out.size
           rw [HET.out] at hrow9
           have HSM := hide (same_any v9 v1 T.pairs T.pairs w9 hrow9 (HR2.out.kp (HK8.out.trans hk9)) (by have := HG1.out.pairs; omega) (by have := HG1.out.pairs; omega))
           rw [show decide (T.pairs = T.pairs) = true by simp] at HSM
           have HS9 := hide (HS8.out.below hb9)
           have HV9 := hide (HV8.out.kp hk9)
           have HM9 := hide (HM8.out.kp hk9)
           have HK9 := hide (HK8.out.trans hk9)
           clear hrow9 hb9 hk9))
        | (go_at_call 33; go_loud (first
           | (refine HSN.out.mono ?_; rintro e w11 ⟨rfl, hb11⟩
              have HS11 := hide (HS10.out.below hb11)
              have HK11 := hide (HK10.out.trans (KpP.of_below hb11 HS10.out.size))
              clear hb11)
           | (refine HSM.out.mono ?_; rintro e w10 ⟨rfl, hb10⟩
              have hk10 := KpP.of_below hb10 HS9.out.size
              have HSN := hide (same_any v8 m T7.pairs T2.pairs w10 (HV9.out.kp hk10) (HM9.out.kp hk10) (by have := HG7.out.pairs; omega) (by have := HG3.out.pairs; omega))
              rw [show decide (T7.pairs = T2.pairs) = true by simp [HP7.out]] at HSN
              have HS10 := hide (HS9.out.below hb10)
              have HK10 := hide (HK9.out.trans hk10)
              clear hb10 hk10))))
      go_roundw
      case rel => exact ⟨j + 1, by omega, by go_num, ⟨T7, r7, HS11.out, HG7.out, HF7.out⟩, HK11.out⟩
      case measure => simp [intOf]; omega
    · obtain rfl : j = 3 := by omega
      have hnl : ¬ ((3 : Nat) : Int) < 3 := by omega
      obtain ⟨q1, q2, q3⟩ := hs.rds ρ (by simp)
      have HPN := hide (xput_no ρ.t x 6 _ _ ⟨#[107]⟩ ⟨#[118]⟩ wr q1 hs.db rfl (by decide) rfl (by decide))
      rw [HE.out] at HPN
      have HS := hide hs
      have HK := hide hk
      clear hs hk q1 q2 q3
      go_wp2_with (first
        | (go_at_call 24; go_loud (
           refine HPN.out.mono ?_; rintro e w4 ⟨f, rfl, hf4, hb4⟩
           have hk4 := HK.out.trans (KpP.of_below hb4 HS.out.size)
           have HTD := hide (told_fault f 6 _ w4 hf4 (HGL.out.below (HW2.out.trans hk4.1)))
           have HS4 := hide (HS.out.below hb4)
           have HK4 := hide hk4
           clear hf4 hb4 hk4))
        | (go_at_call 30; go_loud (
           refine HTD.out.mono ?_; rintro e w5 ⟨rfl, hb5⟩
           have hs5 := HS4.out.below hb5
           obtain ⟨q1, q2, q3⟩ := hs5.rds ρ (by simp)
           have HC := hide (commit_rd ρ.t x _ _ [ρ.t] w5 q1 hs5.db rfl rfl hs5.rd hs5.txb rfl)
           rw [HE.out] at HC
           have HQ := hide (ptr_of q2)
           have HS5 := hide hs5
           have HK5 := hide (HK4.out.trans (KpP.of_below hb5 HS4.out.size))
           have HNT := hide (HE.out ▸ q3)
           clear hs5 hb5 q1 q2 q3))
        | (go_at_call 26; go_loud (
           refine HC.out.mono ?_; rintro e w6 ⟨rfl, hT6, hD6, -, ho6⟩
           have HKE := hide (fun q (hq : ρ.rp = .pointer q) => kall_err t x _ _ w6 hT6 hD6 rfl q hq (show (5 : Nat) ≠ 0 by decide))
           have HB6 := hide (show Below w.heap.size w5 w6 from ho6.to_below HS5.out.size (by
             have h1 := HNT.out
             have h2 := HS5.out.nx
             have h3 := HS5.out.nrd
             rintro y (rfl | rfl | rfl)
             all_goals assumption))
           clear hT6 hD6 ho6))
        | (go_at_call 32; go_loud (
           obtain ⟨q, hq⟩ := HQ.out; refine (HKE.out q hq).mono ?_; clear hq; rintro e w7 ⟨rfl, hb7⟩
           have HB7 := hide hb7
           clear hb7)))
      go_ret
      exact ⟨rfl, ((HW2.out.trans HK5.out.1).trans HB6.out).trans (HB7.out.mono (Nat.le_trans HS5.out.size HB6.out.size))⟩
end Go.Proofs.YtemondlgcmpbbaaGreatDoor
