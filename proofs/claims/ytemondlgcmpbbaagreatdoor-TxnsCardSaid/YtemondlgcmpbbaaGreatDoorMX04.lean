/- Da Db Dc Dd Va: merged. -/
import Derived.Test.YtemondlgcmpbbaaGreatDoorMX01
import Derived.Outline
import Derived.Deep.DeepCutAuto
import Derived.Deep.LoopGhost
import Derived.Deep.RegionHeld3
namespace Go.Proofs.YtemondlgcmpbbaaGreatDoor
open Go.RowKit
set_option maxRecDepth 100000
theorem zeh {a b : Bool} (h : a = b) : Ending.returned (.bool a) = Ending.returned (.bool b) := by rw [h]
structure Nums where
 calls : Int
 writes : Int
 told : Int
 off : Int
 bfrom : Int
 bto : Int
def Nums.small (m : Nums) : Prop := 0 <= m.calls /\ m.calls <= 4611686018427387904 /\ 0 <= m.writes /\ m.writes <= 4611686018427387904 /\ 0 <= m.told /\ m.told <= 4611686018427387904
def DkAt (w : World) (b : Nat) (bv cv : Value) (m : Nums) : Prop :=
 Blk w b 103 #[bv, cv, .int .i64 m.calls, .int .i64 m.writes, .int .i64 m.told, .int .i64 m.off, .int .i64 m.bfrom, .int .i64 m.bto]
def Nums.bad (m : Nums) : Bool := decide (0 <= m.off) && decide (m.off <= m.calls) || decide (m.bfrom <= m.calls) && decide (m.calls < m.bto)
def Nums.tick (m : Nums) : Nums := { m with calls := m.calls + 1, told := if m.bad then m.told + 1 else m.told }
set_option maxHeartbeats 1000000 in
theorem zg6 (b : Nat) (bv cv : Value) (m : Nums) (w : World) (h : DkAt w b bv cv m) (hs : m.small) :
   Calls Tryz.prog 241 #[.pointer (some ⟨b, 0, none⟩)] w fun e w' => e = .returned (.bool m.bad) /\ DkAt w' b bv cv m.tick /\ Only (· = b) w w' := by
 obtain ⟨calls, writes, told, off, bf, bt⟩ := m
 obtain ⟨s1, s2, s3, s4, s5, s6⟩ := hs
 unfold DkAt at h
 simp only at h s1 s2 s3 s4 s5 s6
 have c2 := zab h 2 rfl
 have c4 := zab h 4 rfl
 have c5 := zab h 5 rfl
 have c6 := zab h 6 rfl
 have c7 := zab h 7 rfl
 have f2 : w.frozen? ⟨b, 2, none⟩ = false := h.frozen 2
 have f4 : w.frozen? ⟨b, 4, none⟩ = false := h.frozen 4
 have H := zaa h
 clear h
 have hbd : Nums.bad ⟨calls, writes, told, off, bf, bt⟩ = (decide (0 <= off) && decide (off <= calls) || decide (bf <= calls) && decide (calls < bt)) := rfl
 by_cases h1 : 0 <= off <;> by_cases h2 : off <= calls <;> by_cases h3 : bf <= calls <;> by_cases h4 : calls < bt <;>
 . first
   | (exfalso; omega)
   | (simp only [h1, h2, h3, h4, decide_true, decide_false, Bool.and_true, Bool.and_false, Bool.or_true, Bool.or_false, Bool.and_self, Bool.or_self] at hbd
      have HB := zaa hbd
      clear hbd
      go_enter Tryz.func241, Tryz.ntmps241
      go_wp2
      go_ret
      refine ⟨zeh HB.out.symm, ?_, ?_⟩
      . unfold DkAt Nums.tick
        rw [HB.out]
        first
         | exact (H.out.set_ 2 (.int .i64 (calls + 1))).set_ 4 (.int .i64 (told + 1))
         | exact H.out.set_ 2 (.int .i64 (calls + 1))
      . first | exact (Only.set1 _ _ _ _).set2 _ _ | exact Only.set1 _ _ _ _)
theorem zn2 (b i n c : Nat) (A : Option Addr) (cv : Value) (m : Nums) (w : World) (h : DkAt w b (.slice A n c) cv m) (hi : i < n) (_hn : n <= 1000) :
   Calls Tryz.prog 242 #[.pointer (some ⟨b, 0, none⟩), .int .i64 i] w fun e w' => e = .returned (.bool false) /\ w = w' := by
 have c0 := zab h 0 rfl
 clear h
 have h0 : ¬ ((i : Int) < 0) := by omega
 have h1 : ¬ ((n : Int) <= (i : Int)) := by omega
 go_enter Tryz.func242, Tryz.ntmps242
 go_wp2
 go_ret
 exact ⟨rfl, rfl⟩
theorem ziz (b n c : Nat) (A : Option Addr) (cv : Value) (m : Nums) (w : World) (h : DkAt w b (.slice A n c) cv m) :
   Calls Tryz.prog 237 #[.pointer (some ⟨b, 0, none⟩)] w fun e w' => e = .returned (.int .i64 n) /\ w = w' := by
 have c0 := zab h 0 rfl
 clear h
 go_enter Tryz.func237, Tryz.ntmps237
 go_wp2
 go_ret
 exact ⟨rfl, rfl⟩
theorem zbc (b : Nat) (bv cv : Value) (m : Nums) (w : World) (h : DkAt w b bv cv m) :
   Calls Tryz.prog 178 #[.pointer (some ⟨b, 0, none⟩)] w fun e w' => e = .returned (.int .i64 m.told) /\ w = w' := by
 have c0 := zab h 4 rfl
 clear h
 go_enter Tryz.func178, Tryz.ntmps178
 go_wp2
 go_ret
 exact ⟨rfl, rfl⟩
theorem zez (b : Nat) (bv cv : Value) (m : Nums) (w : World) (h : DkAt w b bv cv m) :
   Calls Tryz.prog 25 #[.pointer (some ⟨b, 0, none⟩)] w fun e w' => e = .returned (.int .i64 m.writes) /\ w = w' := by
 have c0 := zab h 3 rfl
 clear h
 go_enter Tryz.func25, Tryz.ntmps25
 go_wp2
 go_ret
 exact ⟨rfl, rfl⟩
theorem zoq : (Tryz.prog.info? 113).map (fun i => (i.zero, i.size, i.bytes)) = some (some (.agg Tryz.zeroCells113), 129, 136) := by kernel_rfl
theorem zd9 : Tryz.zeroCells113 = (Value.int .i64 0 :: bc (List.replicate 128 0)).toArray := by kernel_rfl
theorem zts : (Value.agg Tryz.zeroCells113).cells.size = 129 := by rw [zd9]; simp [Value.cells, bc]
theorem ze0 : (Tryz.prog.info? 113).map (·.size) = some 129 := by kernel_rfl
theorem zrz : (Tryz.prog.info? 111).map (·.size) = some 128 := by kernel_rfl
theorem zjv : (Tryz.prog.info? 5).map (·.size) = some 1 := by kernel_rfl
def zan (x : Nat × List UInt8) : List Value := .int .i64 x.1 :: bc x.2
def zb8 (l : List (Nat × List UInt8)) : List Value := l.flatMap zan
theorem zdz (x : Nat × List UInt8) : ∀ u ∈ zan x, u.oneCell' = true := by
 intro u hu
 rcases List.mem_cons.1 hu with rfl | hu
 . rfl
 . exact zg3 _ u hu
theorem zm2 (l : List (Nat × List UInt8)) (x : Nat × List UInt8) : zb8 (l ++ [x]) = zb8 l ++ zan x := by simp [zb8]
def pad (n : Nat) (l : List UInt8) : List UInt8 := l ++ List.replicate (n - l.length) 0
theorem zgc (n : Nat) (l : List UInt8) (h : l.length <= n) : (pad n l).length = n := by simp [pad]; omega
theorem zk0 (i : Nat) (bytes : List UInt8) (_h : bytes.length <= 128) : splice (zan (i, List.replicate 128 0)) 1 (bc bytes) = zan (i, pad 128 bytes) := by
 simp only [splice, zan, pad, zf3, zax, List.take_succ_cons, List.take_zero, List.cons_append, List.nil_append, List.cons.injEq, true_and]
 rw [Nat.add_comm, List.drop_succ_cons, <- ze6, List.drop_replicate]
theorem zcl (x : Nat × List UInt8) : (zan x).length = x.2.length + 1 := by simp [zan, zax]
theorem zg7 : ∀ (l : List (Nat × List UInt8)) (k : Nat) (h : k < l.length), (∀ x ∈ l, x.2.length = 128) -> ((zb8 l).drop (k * 129)).take 129 = zan l[k]
 | [], _, h, _ => by simp at h
 | x :: l, 0, _, hc => by
   have h1 := hc x (by simp)
   have : (zan x).length = 129 := by rw [zcl, h1]
   simp only [zb8, List.flatMap_cons, Nat.zero_mul, List.drop_zero, List.getElem_cons_zero]
   rw [<- this, List.take_left]
 | x :: l, k + 1, h, hc => by
   have h1 := hc x (by simp)
   have h2 : (zan x).length = 129 := by rw [zcl, h1]
   have ih := zg7 l k (by simpa using h) fun y hy => hc y (by simp [hy])
   simp only [zb8, List.flatMap_cons, List.getElem_cons_succ] at ih ⊢
   rw [show (k + 1) * 129 = (zan x).length + k * 129 by omega, List.drop_append, Nat.add_sub_cancel_left, List.drop_of_length_le (by omega), List.nil_append, ih]
theorem zdg {w : World} {b : Nat} {bv cv : Value} {m : Nums} (h : DkAt w b bv cv m) {T : TypeId} (hT : T ≠ 103) : ∀ x cs, Blk w x T cs -> ¬ (fun x => x = b) x := fun x cs hx (e : x = b) => by
 subst e
 exact Blk.ne_ hx h hT rfl
set_option maxHeartbeats 1000000 in
theorem zqc (b i n c k cb base q : Nat) (A Ab : Option Addr) (cv : Value) (m : Nums) (bytes : List UInt8) (cache : List (Nat × List UInt8)) (w : World) (h : DkAt w b (.slice Ab n cb) cv m) (hs : m.small) (hb : m.bad = false) (hi : i < n) (hn : n <= 1000)
   (hcv : w.ownsRow base 113 129 cv q (zb8 cache)) (hq : q <= 100000) (hr : SlU w A k c bytes) (hk : k <= 128) (hbase : base <= w.heap.size) :
   Calls Tryz.prog 240 #[.pointer (some ⟨b, 0, none⟩), .int .i64 i, .slice A k c] w fun e w' => ∃ cv', e = .returned .nilIface /\ DkAt w' b (.slice Ab n cb) cv' { m.tick with writes := m.writes + 1 } /\
    w'.ownsRow base 113 129 cv' (q + 1) (zb8 (cache ++ [(i, pad 128 bytes)])) /\ (cv'.ownBlock = cv.ownBlock \/ ∃ g, cv'.ownBlock = some g /\ w.heap.size <= g) /\ Only (fun x => x = b \/ some x = cv.ownBlock) w w' := by
 have hblen : bytes.length = k := hr.1
 have HF := zaa (zg6 b (.slice Ab n cb) cv m w h hs)
 rw [hb] at HF
 have HM := zaa hs
 have HB := zaa hb
 have HNE := zaa (zdg h (T := 5) (by decide))
 have HD := zaa h
 have HCV := zaa hcv
 have HR := zaa hr
 have HL := zaa hblen
 have HN1 : Hid ((bc bytes).length = Nat.min k 128) := by rw [zax, hblen]; exact (Nat.min_eq_left hk).symm
 have HN2 : Hid (1 + (bc bytes).length <= (zan (i, List.replicate 128 0)).length) := by rw [zcl, zax, hblen]; simp only [List.length_replicate]; exact (by omega : 1 + k <= 128 + 1)
 have HSP := zaa (zk0 i bytes (by rw [hblen]; exact hk))
 have HBASE := zaa hbase
 obtain ⟨i0, hi0, hz0, hz1, hz2⟩ := info_parts zoq
 have HI0 := zaa hi0
 have HZ0 := zaa hz0
 have HZ1 := zaa hz1
 have HZ2 := zaa hz2
 clear hs hb h hcv hr hblen hbase hi0 hz0 hz1 hz2
 go_enter Tryz.func240, Tryz.ntmps240
 go_wp2_with (first
  | (go_at_call 241; refine HF.out.mono ?_; rintro e w1 ⟨rfl, hd1, ho1⟩; have HD1 := zaa hd1; have HR1 := zaa (HR.out.only ho1 HNE.out); clear hd1)
  | (go_at_call 242; refine (zn2 b i n cb Ab cv m.tick _ HD1.out hi hn).mono ?_; rintro e w' ⟨rfl, rfl⟩)
  | (refine wpList_copy_splice rfl (.tmp 19) (.tmp 20) 77 77 rfl 5 Tryz.underlying77 zjv _ _ _ _ _ _ rfl rfl w1.heap.size 1 (zan (i, List.replicate 128 0)) 113 (Blk.new w1 _ _) (bc bytes) HN1.out (fun h0 => ⟨rfl, (HR1.out.below ((Below.refl _ _).alloc (Nat.le_refl _) _)).src h0⟩) HN2.out (zg3 _) w1.heap.size w1 ((Below.refl _ _).alloc (Nat.le_refl _) _) (Nat.le_refl _) ?_
     intro w2 hw2 hb2
     have HW2 : Hid (Blk w2 w1.heap.size 113 (zan (i, pad 128 bytes)).toArray) := by rw [HSP.out] at hw2; exact hw2
     clear hw2)
  | (refine zc0 rfl 113 (.tmp 7) (.tmp 17) rfl _ _ _ (zan (i, List.replicate 128 0)) rfl (by rw [zd9]; simp [zan]; rfl) (by rw [zd9]; simp [zan, bc]) ze0 (zdz _) ?_))
 have hd2 := (HD1.out).below hb2 HD1.out.lt
 have c21 : w2.cell? ⟨b, 1, none⟩ = some cv := zab hd2 1 rfl
 have c22 := fun o1 => zaj o1 c21
 have c23 : w2.cell? ⟨b, 3, none⟩ = some (.int .i64 m.tick.writes) := zab hd2 3 rfl
 have HD2 := zaa hd2
 have hlen : (zan (i, pad 128 bytes)).length = 129 := by rw [zcl, zgc _ _ (by rw [HL.out]; exact hk)]
 have HLEN := zaa hlen
 have hrange : w2.drew.rangeAt w1.heap.size 0 (zan (i, pad 128 bytes)) := (HW2.out.drew).range (o := 0) (by simp)
 have HRANGE := zaa hrange
 clear hd2 hlen hrange
 refine wp_region_held_drew (S := fun w' => w'.rangeAt w1.heap.size 0 (zan (i, pad 128 bytes))) (by kernel_rfl) HRANGE.out ?_
 intro hS0
 refine zai (i := 0) (v := (.pointer (some ⟨b, 0, none⟩))) (some 22) rfl rfl (by kernel_rfl) (by kernel_rfl) (by kernel_rfl) (fun _ _ _ h => h) (Or.inl ⟨rfl, fun w' _ => by go_simp⟩) hS0 ?_
 simp only [Act.put, List.setIfInBounds_toArray, List.set_cons_zero, List.set_cons_succ]
 refine zai (i := 1) (v := (.pointer (some ⟨b, 0, none⟩))) (some 23) rfl rfl (by kernel_rfl) (by kernel_rfl) (by kernel_rfl) (fun _ _ _ h => h) (Or.inl ⟨rfl, fun w' _ => by go_simp⟩) hS0 ?_
 simp only [Act.put, List.setIfInBounds_toArray, List.set_cons_zero, List.set_cons_succ]
 refine zai (i := 2) (v := (.pointer (some ⟨b, 0, none⟩))) (some 24) rfl rfl (by kernel_rfl) (by kernel_rfl) (by kernel_rfl) (fun _ _ _ h => h) (Or.inl ⟨rfl, fun w' _ => by go_simp⟩) hS0 ?_
 simp only [Act.put, List.setIfInBounds_toArray, List.set_cons_zero, List.set_cons_succ]
 refine zai (i := 3) (v := (.pointer (some ⟨b, 1, none⟩))) (some 25) rfl rfl (by kernel_rfl) (by kernel_rfl) (by kernel_rfl) (fun _ _ _ h => h) (Or.inl ⟨rfl, fun w' _ => by go_simp⟩) hS0 ?_
 simp only [Act.put, List.setIfInBounds_toArray, List.set_cons_zero, List.set_cons_succ]
 refine zai (i := 5) (v := .agg (zan (i, pad 128 bytes)).toArray) (some 27) rfl rfl (by kernel_rfl) (by kernel_rfl) (by kernel_rfl) (fun _ _ _ h => h) (yieldsIf_load_mid rfl _ _ rfl w1.heap.size 0 rfl _ _ (fun _ h => h) Tryz.underlying113 rfl (by rw [ze0, HLEN.out])) hS0 ?_
 simp only [Act.put, List.setIfInBounds_toArray, List.set_cons_zero, List.set_cons_succ]
 have HD2b : Blk w2 b 103 _ := HD2.out
 have hlt2 : b < w2.heap.size := HD2b.lt
 refine zew (i := 4) (j := 6) (vi := cv) (vj := .slice (some ⟨w2.heap.size, 0, none⟩) 1 1) (w' := w2.drew.alloc (.cells (zan (i, pad 128 bytes)).toArray 113)) (some 26) (some 28) (by kernel_rfl) (by kernel_rfl) (by kernel_rfl) (by kernel_rfl) rfl rfl rfl rfl rfl rfl rfl rfl
  (by go_simp) (by go_simp) (zgu 101 113 (.tmp 27) rfl (zan (i, pad 128 bytes)) rfl i0 _ Tryz.underlying101 HI0.out HZ0.out (by rw [HZ1.out, HLEN.out]) (by rw [HLEN.out]; omega) (by rw [HLEN.out]; omega))
  (zgu 101 113 (.tmp 27) rfl (zan (i, pad 128 bytes)) rfl i0 _ Tryz.underlying101 HI0.out HZ0.out (by rw [HZ1.out, HLEN.out]) (by rw [HLEN.out]; omega) (by rw [HLEN.out]; omega)) hS0 (World.rangeAt_alloc hS0 _) rfl ?_
 simp only [Act.put, List.setIfInBounds_toArray, List.set_cons_zero, List.set_cons_succ]
 refine zaw (i := 7) (by kernel_rfl) rfl rfl ?_
 have hcv1 : w1.ownsRow base 113 129 cv q (zb8 cache) := zak HCV.out ho1 (zdg HD.out (by decide))
 have hcv2 : (w2.drew.alloc (.cells (zan (i, pad 128 bytes)).toArray 113)).ownsRow base 113 129 cv q (zb8 cache) := (zap hcv1 hb2).drew.alloc _
 have HSZ1 := zaa ho1.size
 have HSZ2 := zaa hb2.size
 refine zdk _ (.tmp 26) (.tmp 28) 101 rfl base 113 i0 (.agg Tryz.zeroCells113) 129 136 Tryz.underlying101 HI0.out HZ0.out HZ1.out HZ2.out zts (by decide) cv q (zb8 cache) rfl hcv2 (w2.heap.size + 1) (some ⟨w2.heap.size, 0, none⟩) 1 1 (zan (i, pad 128 bytes)) rfl
  ⟨by rw [HLEN.out], fun _ => ⟨_, rfl, Nat.lt_succ_self _, fun j u hu => by rw [Addr.add_lit]; exact (Blk.new w2.drew _ _).range (o := 0) (by simp) j u hu⟩⟩ (zdz _) (by unfold maxLen; omega) (by omega) (Nat.le_trans HBASE.out (Nat.le_trans HSZ1.out (Nat.le_trans HSZ2.out (by simp)))) ?_
 intro cv' w4 hcv4 hgr4 hat4
 have hne : some b ≠ cv.ownBlock := fun e => zae HCV.out HD.out (by decide) e.symm
 have hb3 : Blk (w2.drew.alloc (.cells (zan (i, pad 128 bytes)).toArray 113)) b 103 _ := HD2b.drew.alloc _
 have hb4 := hb3.grown hgr4 hne
 have c41 : w4.cell? ⟨b, 1, none⟩ = some cv := zab hb4 1 rfl
 have f41 : w4.frozen? ⟨b, 1, none⟩ = false := hb4.frozen 1
 obtain ⟨A4, c4, rfl, _⟩ := zad hcv4
 have hS4 : w4.rangeAt w1.heap.size 0 (zan (i, pad 128 bytes)) := by
  refine (Blk.range (t := 113) (o := 0) ((HW2.out.drew.alloc _).grown hgr4 fun e => ?_) (by simp))
  have := (zaz HCV.out e.symm).2
  have := HSZ1.out
  omega
 have hS5 : (w4.setCell ⟨b, 1, none⟩ (.slice A4 (q + 1) c4)).rangeAt w1.heap.size 0 (zan (i, pad 128 bytes)) := by
  intro j v hv
  rw [World.cell?_setCell_other _ _ _ _ (fun e => by
   injection e with e
   have := HD1.out.lt
   omega)]
  exact hS4 j v hv
 have HS4 := zaa hS4
 have HS5 := zaa hS5
 have HB4 := zaa hb4
 have HB3 := zaa hb3
 have HG4 := zaa hgr4
 have HCV4 := zaa hcv4
 have HAT4 := zaa hat4
 have HNE4 := zaa hne
 clear hb4 hb3 hgr4 hcv4 hat4 hne hcv2 hcv1 HD2b hS4 hS5
 refine ⟨HS4.out, ?_⟩
 change wpAnyH _ _ _ _ _ _ _ (Act.put _ (some 29) (.slice A4 (q + 1) c4)) _
 simp only [Act.put, List.setIfInBounds_toArray, List.set_cons_zero, List.set_cons_succ]
 refine zdy (i := 8) (w' := w4) (v := .pointer (some ⟨b, 0, none⟩)) (some 30) (by kernel_rfl) rfl rfl rfl (by go_simp) HS4.out ?_
 simp only [Act.put, List.setIfInBounds_toArray, List.set_cons_zero, List.set_cons_succ]
 refine zdy (i := 9) (w' := w4) (v := .pointer (some ⟨b, 1, none⟩)) (some 31) (by kernel_rfl) rfl rfl rfl (by go_simp) HS4.out ?_
 simp only [Act.put, List.setIfInBounds_toArray, List.set_cons_zero, List.set_cons_succ]
 refine zm1 (i := 10) (w' := w4.setCell ⟨b, 1, none⟩ (.slice A4 (q + 1) c4)) (by kernel_rfl) rfl rfl rfl (by go_simp) HS5.out ?_
 refine wpAnyH_done (by kernel_rfl) ?_ _
 have hb5 := HB4.out.set_ 1 (.slice A4 (q + 1) c4)
 obtain ⟨w5, hw5⟩ : ∃ w5, w5 = w4.setCell ⟨b, 1, none⟩ (.slice A4 (q + 1) c4) := ⟨_, rfl⟩
 have ho5 : Only (fun x => x = b) w4 w5 := by rw [hw5]; exact Only.set1 _ _ _ _
 rw [<- hw5] at hb5 ⊢
 have c53 : w5.cell? ⟨b, 3, none⟩ = some (.int .i64 m.tick.writes) := zab hb5 3 rfl
 have f53 : w5.frozen? ⟨b, 3, none⟩ = false := hb5.frozen 3
 have m1 : (0 : Int) <= m.tick.writes := HM.out.2.2.1
 have m2 : m.tick.writes <= 4611686018427387904 := HM.out.2.2.2.1
 have HB5 := zaa hb5
 have HO5 := zaa ho5
 have HW5 := zaa hw5
 clear hb5 ho5 hw5
 go_wp2
 go_ret
 refine ⟨.slice A4 (q + 1) c4, rfl, HB5.out.set_ 3 _, ?_, ?_, ?_⟩
 . rw [zm2]
   exact zak HCV4.out (HO5.out.set2 3 _) fun x cs hx e => Blk.ne_ hx HB4.out (by decide) e
 . rcases HAT4.out with e | e
   . exact .inl e
   . exact .inr ⟨_, e, Nat.le_trans HSZ1.out (Nat.le_trans HSZ2.out (by simp))⟩
 . refine Only.trans (Only.mono ho1 fun _ _ h => .inl h) (Only.trans' (Only.grown ((Only.of_below hb2).drew.alloc _) HG4.out (fp := fun x => x = b \/ some x = cv.ownBlock) fun g hg => .inl (.inr hg.symm)) (HO5.out.set2 3 _) fun _ _ h => .inl h)
def zal (bytes : List UInt8) (cache : List (Nat × List UInt8)) (i : Nat) : List UInt8 :=
 cache.foldl (fun acc x => if x.1 = i then x.2 else acc) ((bytes.drop (i * 128)).take 128)
theorem ztt (w : World) : (Instr.makeSlice 77 (.int .i64 128) (.int .i64 128)).run Tryz.prog w = .ok (.slice (some ⟨w.heap.size, 0, none⟩) 128 128) (w.alloc (.cells (bc (List.replicate 128 0)).toArray 5)) := by kernel_rfl
theorem zi0 (bytes : List UInt8) (cache : List (Nat × List UInt8)) (i k : Nat) (h : k < cache.length) : zal bytes (cache.take (k + 1)) i = if cache[k].1 = i then cache[k].2 else zal bytes (cache.take k) i := by
 unfold zal
 rw [List.take_succ_eq_append_getElem h, List.foldl_append]
 rfl
theorem zg8 (bytes : List UInt8) : ∀ (cache : List (Nat × List UInt8)) (i n : Nat), i < n -> bytes.length = n * 128 -> (∀ x ∈ cache, x.2.length = 128) -> (zal bytes cache i).length = 128 := by
 intro cache i n hi hl hc
 unfold zal
 have h0 : ((bytes.drop (i * 128)).take 128).length = 128 := by rw [List.length_take, List.length_drop]; omega
 generalize (bytes.drop (i * 128)).take 128 = acc at h0
 induction cache generalizing acc with
 | nil => exact h0
 | cons x l ih =>
   rw [List.foldl_cons]
   refine ih (fun y hy => hc y (by simp [hy])) _ ?_
   split
   . exact hc x (by simp)
   . exact h0
set_option maxHeartbeats 1000000 in
theorem zr0 (b i n c g base q : Nat) (cv : Value) (m : Nums) (bytes : List UInt8) (cache : List (Nat × List UInt8)) (w : World) (h : DkAt w b (.slice (some ⟨g, 0, none⟩) n c) cv m) (hs : m.small) (hb : m.bad = false) (hi : i < n) (hn : n <= 1000)
   (hg : Blk w g 111 (bc bytes).toArray) (hlen : bytes.length = c * 128) (hnc : n <= c) (hcv : w.ownsRow base 113 129 cv q (zb8 cache)) (hc : ∀ x ∈ cache, x.2.length = 128) (hq : cache.length = q) (hq2 : q <= 100000) :
   Calls Tryz.prog 239 #[.pointer (some ⟨b, 0, none⟩), .int .i64 i] w fun e w' => ∃ g', e = .returned (.tuple #[.slice (some ⟨g', 0, none⟩) 128 128, .nilIface]) /\ DkAt w' b (.slice (some ⟨g, 0, none⟩) n c) cv m.tick /\
    Blk w' g' 5 (bc (zal bytes cache i)).toArray /\ w.heap.size <= g' /\ Only (fun x => x = b) w w' := by
 obtain ⟨Ac, cc, rfl, hqc, hcc, hown, hno⟩ := zad hcv
 have HOWN := zaa hown
 have HNO := zaa hno
 have HF := zaa (zg6 b (.slice (some ⟨g, 0, none⟩) n c) _ m w h hs)
 rw [hb] at HF
 have HM := zaa hs
 have HB := zaa hb
 have HNE := zaa (zdg h (T := 111) (by decide))
 have HNE2 := zaa (zdg h (T := 113) (by decide))
 have HD := zaa h
 have HCV := zaa hcv
 have HG := zaa hg
 have HL := zaa hlen
 have HC := zaa hc
 have HQ := zaa hq
 clear hown hno hs hb h hcv hg hlen hc hq
 have hmk := ztt
 have hblen : (bc ((bytes.drop (i * 128)).take 128)).length = 128 := by rw [zax, List.length_take, List.length_drop, HL.out]; omega
 have HBL := zaa hblen
 have HRG : Hid (((bc bytes).drop (i * 128)).take (bc ((bytes.drop (i * 128)).take 128)).length = bc ((bytes.drop (i * 128)).take 128)) := by rw [hblen, zhm, ze6]; exact rfl
 have HN1 : Hid ((bc ((bytes.drop (i * 128)).take 128)).length = Nat.min 128 128 * 1) := hblen
 have HN2 : Hid (0 + (bc ((bytes.drop (i * 128)).take 128)).length <= (bc (List.replicate 128 0)).length) := by rw [hblen, zax]; simp only [List.length_replicate]; exact Nat.le_refl _
 have HSP : Hid (spl (bc (List.replicate 128 0)) 0 (bc ((bytes.drop (i * 128)).take 128)) = bc ((bytes.drop (i * 128)).take 128)) := ze7 (by rw [hblen, zax, List.length_replicate])
 clear hblen
 have q1 : (0 : Int) <= (i : Int) := by omega
 have q2 : (i : Int) < (n : Int) := by omega
 go_enter Tryz.func239, Tryz.ntmps239
 go_wp2_with (first
  | (go_at_call 241; refine HF.out.mono ?_; rintro e w1 ⟨rfl, hd1, ho1⟩; have HD1 := zaa hd1; have c01 : w1.cell? ⟨b, 0, none⟩ = some (.slice (some ⟨g, 0, none⟩) n c) := zab hd1 0 rfl; have c02 := fun o1 => zaj o1 c01; have HSRC : Hid (∀ (o : Obj) (j : Nat) (v : Value), (bc ((bytes.drop (i * 128)).take 128))[j]? = some v -> (w1.alloc o).cell? ((⟨g, i * 128, none⟩ : Addr).add j) = some v) := (fun o j v hv => by rw [Addr.add_lit]; exact Blk.range (cur := bc bytes) (o := i * 128) (((ho1.blk HG.out (HNE.out _ _ HG.out))).alloc o) HRG.out j v hv); have HZ1 := zaa ho1.size; clear hd1)
  | (go_at_call 242; refine (zn2 b i n c _ _ m.tick _ HD1.out hi hn).mono ?_; rintro e w' ⟨rfl, rfl⟩)
  | (refine zbv _ rfl (.tmp 18) (.tmp 25) 77 77 rfl 5 1 Tryz.underlying77 zjv w1.heap.size 0 128 128 ⟨g, i * 128, none⟩ 128 128 rfl rfl (bc (List.replicate 128 0)) 5 (Blk.new w1 _ _) (bc ((bytes.drop (i * 128)).take 128)) HN1.out (HSRC.out _) HN2.out (zg3 _) ?_
     intro w2 hb2 hg2 hs2
     have HB2 := zaa hb2
     rw [HSP.out] at HB2
     have hd2 : DkAt w2 b (.slice (some ⟨g, 0, none⟩) n c) (.slice Ac q cc) m.tick := (HD1.out.alloc _).grown hg2 (fun e => by injection e with e; have := HD1.out.lt; omega)
     have c21 : w2.cell? ⟨b, 1, none⟩ = some (.slice Ac q cc) := zab hd2 1 rfl
     have HD2 := zaa hd2
     have HG2 := zaa hg2
     have HS2 : Hid (w2.heap.size = w1.heap.size + 1) := by rw [hs2]; exact World.size_alloc _ _
     clear hb2 hg2 hd2 hs2))
 have hb2b : Blk w2 w1.heap.size 5 (bc (zal bytes [] i)).toArray := HB2.out
 have HB2b := zaa hb2b
 clear hb2b
 go_loopw [32] (fun v wr => ∃ k : Nat, k <= q /\ v = .int .i64 k /\ Blk wr w1.heap.size 5 (bc (zal bytes (cache.take k) i)).toArray /\ Only (fun x => x = w1.heap.size) w2 wr) (fun v _ => q - (intOf v).toNat)
 case atStart => exact ⟨0, Nat.zero_le _, rfl, by rw [List.take_zero]; exact HB2b.out, Only.refl _ _⟩
 case round =>
  obtain ⟨k, hk, rfl, hbk, hok⟩ := hrel
  have HBK := zaa hbk
  have HOK := zaa hok
  clear hbk hok
  by_cases hlt : k < q
  . have hkl : k < cache.length := by rw [HQ.out]; exact hlt
    obtain ⟨gc, cur, rfl, hgc, htk⟩ : ∃ gc cur, Ac = some ⟨gc, 0, none⟩ /\ Blk w gc 113 cur /\ cur.toList.take (q * 129) = zb8 cache := by
     cases Ac with
     | none => have := (HNO.out rfl).1; omega
     | some a =>
       obtain ⟨_, _, e, cur, hb, _, ht⟩ := HOWN.out a.block rfl
       exact ⟨a.block, cur, e, hb, ht⟩
    have hgl := hgc.lt
    have hz : w.heap.size <= w1.heap.size := HZ1.out
    have hwr : Blk wr gc 113 cur.toList.toArray := HOK.out.blk ((((ho1.blk hgc (HNE2.out _ _ hgc)).alloc _)).grown HG2.out (fun e => by injection e with e; omega)) (fun e => by omega)
    obtain ⟨x, hx⟩ : ∃ x, x = cache[k] := ⟨_, rfl⟩
    have hxl : x.2.length = 128 := by rw [hx]; exact HC.out _ (List.getElem_mem hkl)
    have hwl : (zan x).length = 129 := by rw [zcl, hxl]
    have hrg : wr.rangeAt gc (k * 129) (zan x) := hwr.range (by
     rw [hwl, hx, <- zg7 cache k hkl HC.out, <- htk, zf4 _ _ _ _ (by omega)])
    have cw0 : (wr.alloc (.cells (zan x).toArray 113)).cell? ⟨wr.heap.size, 0, none⟩ = some (.int .i64 x.1) := zab (Blk.new wr _ _) 0 rfl
    have hsz : (Tryz.prog.info? 113).map (·.size) = some (zan x).length := by rw [ze0, hwl]
    have hdl : (zal bytes (cache.take k) i).length = 128 := zg8 bytes _ i c (by omega) HL.out fun y hy => HC.out y (List.mem_of_mem_take hy)
    have HX := zaa hx
    have HXL := zaa hxl
    have HRGW := zaa hrg
    have HSZ := zaa hsz
    have HWL := zaa hwl
    have HM1 : Hid ((bc x.2).length = Nat.min 128 128 * 1) := by rw [zax, hxl]; exact rfl
    have HM2 : Hid (0 + (bc x.2).length <= (bc (zal bytes (cache.take k) i)).length) := by rw [zax, zax, hxl, hdl]; exact Nat.le_refl _
    have HSPL : Hid (spl (bc (zal bytes (cache.take k) i)) 0 (bc x.2) = bc x.2) := ze7 (by rw [zax, zax, hxl, hdl])
    have HSR : Hid (∀ j v, (bc x.2)[j]? = some v -> (wr.alloc (.cells (zan x).toArray 113)).cell? ((⟨wr.heap.size, 1, none⟩ : Addr).add j) = some v) := fun j v hv => by
     rw [Addr.add_lit]
     exact (Blk.new wr 113 (zan x).toArray).range (o := 1) (cs := bc x.2) (by show ((bc x.2).drop 0).take (bc x.2).length = bc x.2; rw [List.drop_zero, List.take_length]) j v hv
    have HDL := zaa hdl
    have k1 : (0 : Int) <= (k : Int) := by omega
    have k2 : (k : Int) < (q : Int) := by omega
    have k3 : (q : Int) <= 100000 := by omega
    clear hx hxl hrg hsz hwl hwr htk hdl
    by_cases hat : x.1 = i
    . have e1 : ((x.1 : Int) == (i : Int)) = true := by rw [hat]; exact beq_self_eq_true _
      have HAT := zaa hat
      clear hat
      go_wp2_with (first
       | (refine wpList_load_mid rfl 113 (.tmp 34) rfl gc (k * 129) rfl (zan x) _ HRGW.out Tryz.underlying113 rfl HSZ.out ?_)
       | (refine zc0 rfl 113 (.tmp 8) (.tmp 35) rfl wr _ _ (zan x) rfl rfl (by rw [HWL.out, zd9]; simp [bc]) HSZ.out (zdz _) ?_)
       | (refine zbv _ rfl (.tmp 40) (.tmp 42) 77 77 rfl 5 1 Tryz.underlying77 zjv w1.heap.size 0 128 128 ⟨wr.heap.size, 1, none⟩ 128 128 rfl rfl (bc (zal bytes (cache.take k) i)) 5 (HBK.out.alloc _) (bc x.2) HM1.out HSR.out HM2.out (zg3 _) ?_
          intro w3 hb3 hg3 hs3
          have HB3 := zaa hb3
          rw [HSPL.out] at HB3
          have HG3 := zaa hg3
          clear hb3 hg3 hs3))
      go_roundw
      case rel =>
       refine ⟨k + 1, by omega, by go_num, ?_, HOK.out.alloc _ |>.grown HG3.out fun g hg => .inl (by injection hg with hg; exact hg.symm)⟩
       rw [zi0 bytes cache i k hkl, <- HX.out, if_pos HAT.out]
       exact HB3.out
      case measure => simp [intOf]; omega
    . have e1 : ((x.1 : Int) == (i : Int)) = false := by rw [beq_eq_false_iff_ne]; omega
      have HAT := zaa hat
      clear hat
      go_wp2_with (first
       | (refine wpList_load_mid rfl 113 (.tmp 34) rfl gc (k * 129) rfl (zan x) _ HRGW.out Tryz.underlying113 rfl HSZ.out ?_)
       | (refine zc0 rfl 113 (.tmp 8) (.tmp 35) rfl wr _ _ (zan x) rfl rfl (by rw [HWL.out, zd9]; simp [bc]) HSZ.out (zdz _) ?_))
      go_roundw
      case rel =>
       refine ⟨k + 1, by omega, by go_num, ?_, HOK.out.alloc _⟩
       rw [zi0 bytes cache i k hkl, <- HX.out, if_neg HAT.out]
       exact HBK.out.alloc _
      case measure => simp [intOf]; omega
  . have hnl : ¬ ((k : Int) < (q : Int)) := by omega
    go_wp2
    go_ret2
    have hkq : k = q := by omega
    have hz : w.heap.size <= w1.heap.size := HZ1.out
    refine ⟨w1.heap.size, rfl, HD2.out.only HOK.out (fun e => by have := HD1.out.lt; omega), ?_, hz, ?_⟩
    . have := HBK.out
      rw [hkq, <- HQ.out, List.take_length] at this
      exact this
    . exact Only.trans' ((ho1.alloc _).grown HG2.out fun g hg => .inr (by injection hg with hg; omega)) HOK.out fun x hx e => by omega
def zea (bytes : List UInt8) (x : Nat × List UInt8) : List UInt8 := bytes.take (x.1 * 128) ++ x.2 ++ bytes.drop (x.1 * 128 + 128)
def zcf (bytes : List UInt8) (cache : List (Nat × List UInt8)) : List UInt8 := cache.foldl zea bytes
theorem zm3 {bytes : List UInt8} {n : Nat} {x : Nat × List UInt8} (h : bytes.length = n * 128) (h1 : x.1 < n) (h2 : x.2.length = 128) : (zea bytes x).length = n * 128 := by
 unfold zea
 simp only [List.length_append, List.length_take, List.length_drop]
 omega
theorem zev {n : Nat} : ∀ (cache : List (Nat × List UInt8)) (bytes : List UInt8), bytes.length = n * 128 -> (∀ x ∈ cache, x.1 < n /\ x.2.length = 128) -> (zcf bytes cache).length = n * 128
 | [], _, h, _ => h
 | x :: l, bytes, h, hc => zev l (zea bytes x) (zm3 h (hc x (by simp)).1 (hc x (by simp)).2) fun y hy => hc y (by simp [hy])
theorem zm4 (bytes : List UInt8) (cache : List (Nat × List UInt8)) (k : Nat) (h : k < cache.length) : zcf bytes (cache.take (k + 1)) = zea (zcf bytes (cache.take k)) cache[k] := by
 unfold zcf
 rw [List.take_succ_eq_append_getElem h, List.foldl_append]
 rfl
theorem ztu {bytes : List UInt8} {_n : Nat} {x : Nat × List UInt8} (h2 : x.2.length = 128) : spl (bc bytes) (x.1 * 128) (bc x.2) = bc (zea bytes x) := by
 unfold spl zea
 rw [zf3, zf3, zhm, ze6, zax, h2]
set_option maxHeartbeats 1000000 in
theorem zqd (b n c g base q : Nat) (cv : Value) (m : Nums) (bytes : List UInt8) (cache : List (Nat × List UInt8)) (w : World) (h : DkAt w b (.slice (some ⟨g, 0, none⟩) n c) cv m) (hs : m.small) (hb : m.bad = false) (_hn : n <= 1000)
   (hg : Blk w g 111 (bc bytes).toArray) (hlen : bytes.length = c * 128) (hnc : n <= c) (hcv : w.ownsRow base 113 129 cv q (zb8 cache)) (hc : ∀ x ∈ cache, x.1 < n /\ x.2.length = 128) (hq : cache.length = q) (hq2 : q <= 100000) :
   Calls Tryz.prog 238 #[.pointer (some ⟨b, 0, none⟩)] w fun e w' => e = .returned .nilIface /\ DkAt w' b (.slice (some ⟨g, 0, none⟩) n c) (.slice none 0 0) m.tick /\
    Blk w' g 111 (bc (zcf bytes cache)).toArray /\ Only (fun x => x = b \/ x = g) w w' := by
 obtain ⟨Ac, cc, rfl, hqc, hcc, hown, hno⟩ := zad hcv
 have HOWN := zaa hown
 have HNO := zaa hno
 have HF := zaa (zg6 b (.slice (some ⟨g, 0, none⟩) n c) _ m w h hs)
 rw [hb] at HF
 have HM := zaa hs
 have HB := zaa hb
 have HNE := zaa (zdg h (T := 111) (by decide))
 have HNE2 := zaa (zdg h (T := 113) (by decide))
 have HD := zaa h
 have HCV := zaa hcv
 have HG := zaa hg
 have HL := zaa hlen
 have HC := zaa hc
 have HQ := zaa hq
 clear hown hno hs hb h hcv hg hlen hc hq
 go_enter Tryz.func238, Tryz.ntmps238
 go_wp2_with (first
  | (go_at_call 241; refine HF.out.mono ?_; rintro e w1 ⟨rfl, hd1, ho1⟩; have HD1 := zaa hd1; have c01 : w1.cell? ⟨b, 0, none⟩ = some (.slice (some ⟨g, 0, none⟩) n c) := zab hd1 0 rfl; have c02 : w1.cell? ⟨b, 1, none⟩ = some (.slice Ac q cc) := zab hd1 1 rfl; have HG1 := zaa (ho1.blk HG.out (HNE.out _ _ HG.out)); clear hd1))
 have hbg : b ≠ g := HD1.out.ne_ HG1.out (by decide)
 have hbl : b < w1.heap.size := HD1.out.lt
 have hgl : g < w1.heap.size := HG1.out.lt
 go_loopw [13] (fun v wr => ∃ k : Nat, k <= q /\ v = .int .i64 k /\ Blk wr g 111 (bc (zcf bytes (cache.take k))).toArray /\ Only (fun x => x = g) w1 wr) (fun v _ => q - (intOf v).toNat)
 case atStart => exact ⟨0, Nat.zero_le _, rfl, by rw [List.take_zero]; exact HG1.out, Only.refl _ _⟩
 case round =>
  obtain ⟨k, hk, rfl, hbk, hok⟩ := hrel
  have hdr : DkAt wr b (.slice (some ⟨g, 0, none⟩) n c) (.slice Ac q cc) m.tick := HD1.out.only hok hbg
  have r0 : wr.cell? ⟨b, 0, none⟩ = some (.slice (some ⟨g, 0, none⟩) n c) := zab hdr 0 rfl
  have HDR := zaa hdr
  have HBK := zaa hbk
  have HOK := zaa hok
  clear hbk hok hdr c01 c02
  by_cases hlt : k < q
  . have hkl : k < cache.length := by rw [HQ.out]; exact hlt
    obtain ⟨gc, cur, rfl, hgc, htk⟩ : ∃ gc cur, Ac = some ⟨gc, 0, none⟩ /\ Blk w gc 113 cur /\ cur.toList.take (q * 129) = zb8 cache := by
     cases Ac with
     | none => have := (HNO.out rfl).1; omega
     | some a =>
       obtain ⟨_, _, e, cur, hb, _, ht⟩ := HOWN.out a.block rfl
       exact ⟨a.block, cur, e, hb, ht⟩
    have hwr : Blk wr gc 113 cur.toList.toArray := HOK.out.blk (ho1.blk hgc (HNE2.out _ _ hgc)) (fun e => by subst e; exact Blk.ne_ hgc HG.out (by decide) rfl)
    obtain ⟨x, hx⟩ : ∃ x, x = cache[k] := ⟨_, rfl⟩
    have hxl : x.1 < n /\ x.2.length = 128 := by rw [hx]; exact HC.out _ (List.getElem_mem hkl)
    have hwl : (zan x).length = 129 := by rw [zcl, hxl.2]
    have hrg : wr.rangeAt gc (k * 129) (zan x) := hwr.range (by
     rw [hwl, hx, <- zg7 cache k hkl (fun y hy => (HC.out y hy).2), <- htk, zf4 _ _ _ _ (by omega)])
    have cw0 : (wr.alloc (.cells (zan x).toArray 113)).cell? ⟨wr.heap.size, 0, none⟩ = some (.int .i64 x.1) := zab (Blk.new wr _ _) 0 rfl
    have r01 := fun o1 => zaj o1 r0
    have hsz : (Tryz.prog.info? 113).map (·.size) = some (zan x).length := by rw [ze0, hwl]
    have hdl : (zcf bytes (cache.take k)).length = c * 128 := zev _ _ HL.out fun y hy => ⟨Nat.lt_of_lt_of_le (HC.out y (List.mem_of_mem_take hy)).1 hnc, (HC.out y (List.mem_of_mem_take hy)).2⟩
    have HX := zaa hx
    have HXL := zaa hxl
    have HRGW := zaa hrg
    have HSZ := zaa hsz
    have HWL := zaa hwl
    have HDL := zaa hdl
    have k1 : (0 : Int) <= (k : Int) := by omega
    have k2 : (k : Int) < (q : Int) := by omega
    have k3 : (q : Int) <= 100000 := by omega
    have x1 : (0 : Int) <= (x.1 : Int) := by omega
    have x2 : (x.1 : Int) < (n : Int) := by have := hxl.1; omega
    have ua := Tryz.underlying111
    have hr24 : (wr.alloc (.cells (zan x).toArray 113)).drew.rangeAt wr.heap.size 1 (bc x.2) := (Blk.new wr 113 (zan x).toArray).drew.range (o := 1) (cs := bc x.2) (by show ((bc x.2).drop 0).take (bc x.2).length = bc x.2; rw [List.drop_zero, List.take_length])
    have hsa : (Tryz.prog.info? 111).map (·.size) = some (bc x.2).length := by rw [zrz, zax, hxl.2]
    have HR24 := zaa hr24
    have HSA := zaa hsa
    clear hx hxl hrg hsz hwl hwr htk hdl hr24 hsa
    go_wp2_with (first
     | (refine wpList_load_mid rfl 113 (.tmp 15) rfl gc (k * 129) rfl (zan x) _ HRGW.out Tryz.underlying113 rfl HSZ.out ?_)
     | (refine zc0 rfl 113 (.tmp 4) (.tmp 16) rfl wr _ _ (zan x) rfl rfl (by rw [HWL.out, zd9]; simp [bc]) HSZ.out (zdz _) ?_))
    have hw0 : (wr.alloc (.cells (zan x).toArray 113)).drew.cell? ⟨b, 0, none⟩ = some (.slice (some ⟨g, 0, none⟩) n c) := zaj _ r0
    refine wp_region_held_drew (S := fun w' => w'.cell? ⟨b, 0, none⟩ = some (.slice (some ⟨g, 0, none⟩) n c) /\ w'.cell? ⟨wr.heap.size, 0, none⟩ = some (.int .i64 x.1) /\ w'.rangeAt wr.heap.size 1 (bc x.2)) (by kernel_rfl) ⟨hw0, cw0, HR24.out⟩ ?_
    intro hS0
    refine zai (i := 0) (v := (.pointer (some ⟨b, 0, none⟩))) (some 17) rfl rfl (by kernel_rfl) (by kernel_rfl) (by kernel_rfl) (fun _ _ _ h => h) (Or.inl ⟨rfl, fun w' hSw => by go_simp⟩) hS0 ?_
    simp only [Act.put, List.setIfInBounds_toArray, List.set_cons_zero, List.set_cons_succ]
    refine zai (i := 1) (v := (.pointer (some ⟨b, 0, none⟩))) (some 18) rfl rfl (by kernel_rfl) (by kernel_rfl) (by kernel_rfl) (fun _ _ _ h => h) (Or.inl ⟨rfl, fun w' hSw => by go_simp⟩) hS0 ?_
    simp only [Act.put, List.setIfInBounds_toArray, List.set_cons_zero, List.set_cons_succ]
    refine zai (i := 2) (v := (.pointer (some ⟨b, 0, none⟩))) (some 19) rfl rfl (by kernel_rfl) (by kernel_rfl) (by kernel_rfl) (fun _ _ _ h => h) (Or.inl ⟨rfl, fun w' hSw => by go_simp⟩) hS0 ?_
    simp only [Act.put, List.setIfInBounds_toArray, List.set_cons_zero, List.set_cons_succ]
    refine zai (i := 3) (v := (.slice (some ⟨g, 0, none⟩) n c)) (some 20) rfl rfl (by kernel_rfl) (by kernel_rfl) (by kernel_rfl) (fun _ _ _ h => h) (Or.inl ⟨rfl, fun w' hSw => by have h1 := hSw.1; clear hSw; go_simp⟩) hS0 ?_
    simp only [Act.put, List.setIfInBounds_toArray, List.set_cons_zero, List.set_cons_succ]
    refine zai (i := 4) (v := (.pointer (some ⟨wr.heap.size, 0, none⟩))) (some 21) rfl rfl (by kernel_rfl) (by kernel_rfl) (by kernel_rfl) (fun _ _ _ h => h) (Or.inl ⟨rfl, fun w' hSw => by go_simp⟩) hS0 ?_
    simp only [Act.put, List.setIfInBounds_toArray, List.set_cons_zero, List.set_cons_succ]
    refine zai (i := 5) (v := (.int .i64 x.1)) (some 22) rfl rfl (by kernel_rfl) (by kernel_rfl) (by kernel_rfl) (fun _ _ _ h => h) (Or.inl ⟨rfl, fun w' hSw => by have h1 := hSw.2.1; clear hSw; go_simp⟩) hS0 ?_
    simp only [Act.put, List.setIfInBounds_toArray, List.set_cons_zero, List.set_cons_succ]
    refine zai (i := 6) (v := (.pointer (some ⟨wr.heap.size, 1, none⟩))) (some 23) rfl rfl (by kernel_rfl) (by kernel_rfl) (by kernel_rfl) (fun _ _ _ h => h) (Or.inl ⟨rfl, fun w' hSw => by go_simp⟩) hS0 ?_
    simp only [Act.put, List.setIfInBounds_toArray, List.set_cons_zero, List.set_cons_succ]
    refine zai (i := 7) (v := .agg (bc x.2).toArray) (some 24) rfl rfl (by kernel_rfl) (by kernel_rfl) (by kernel_rfl) (fun _ _ _ h => h) (yieldsIf_load_mid rfl _ _ rfl wr.heap.size 1 rfl _ _ (fun _ h => h.2.2) Tryz.underlying111 rfl HSA.out) hS0 ?_
    simp only [Act.put, List.setIfInBounds_toArray, List.set_cons_zero, List.set_cons_succ]
    refine zai (i := 8) (v := (.pointer (some ⟨g, x.1 * 128, none⟩))) (some 25) rfl rfl (by kernel_rfl) (by kernel_rfl) (by kernel_rfl) (fun _ _ _ h => h) (Or.inl ⟨rfl, fun w' hSw => by clear hSw; go_simp⟩) hS0 ?_
    simp only [Act.put, List.setIfInBounds_toArray, List.set_cons_zero, List.set_cons_succ]
    refine zaw (i := 9) (by kernel_rfl) rfl rfl ?_
    refine zc5 111 (.tmp 25) (.tmp 24) rfl g (x.1 * 128) (bc x.2) rfl rfl 111 (bc (zcf bytes (cache.take k))) ((HBK.out.alloc _).drew) (by rw [zax, zax, HXL.out.2, HDL.out]; have := HXL.out.1; omega) HSA.out (zg3 _) ?_
    intro w3 hb3 hg3 hs3
    have hg3' : ∀ {y : Nat}, y ≠ g -> some y ≠ some g := fun h e => h (by injection e)
    have hgr : g < wr.heap.size := HBK.out.lt
    have hSl : w3.cell? ⟨b, 0, none⟩ = some (.slice (some ⟨g, 0, none⟩) n c) /\ w3.cell? ⟨wr.heap.size, 0, none⟩ = some (.int .i64 x.1) /\ w3.rangeAt wr.heap.size 1 (bc x.2) := by
     have hzz : (wr.alloc (.cells (zan x).toArray 113)).drew.heap.size = wr.heap.size + 1 := World.size_alloc _ _
     refine ⟨?_, ?_, fun j v hv => ?_⟩
     . rw [World.cell?_of_block (hg3.block b (by rw [hzz]; have := HDR.out.lt; omega) (hg3' hbg))]; exact hw0
     . rw [World.cell?_of_block (hg3.block wr.heap.size (by rw [hzz]; omega) (hg3' (by omega)))]; exact cw0
     . rw [World.cell?_of_block (hg3.block wr.heap.size (by rw [hzz]; omega) (hg3' (by omega)))]; exact HR24.out j v hv
    refine ⟨hSl, ?_⟩
    refine wpAnyH_done (by kernel_rfl) ?_ _
    have HB3 := zaa hb3
    have HG3 := zaa hg3
    clear hb3 hg3 hs3 hg3' hSl hS0 hw0
    change Exit.inBlock _ _ _ (Act.put _ none undef) _
    simp only [Act.put]
    go_wp2
    go_roundw
    case rel =>
     refine ⟨k + 1, by omega, by go_num, ?_, Only.grown ((HOK.out.alloc _).drew) HG3.out fun g' hg' => .inl (by injection hg' with hg'; exact hg'.symm)⟩
     rw [zm4 bytes cache k hkl, <- HX.out, <- ztu (_n := n) HXL.out.2]
     exact HB3.out
    case measure => simp [intOf]; omega
  . have hnl : ¬ ((k : Int) < (q : Int)) := by omega
    have r1 : wr.cell? ⟨b, 1, none⟩ = some (.slice Ac q cc) := zab HDR.out 1 rfl
    have f1 : wr.frozen? ⟨b, 1, none⟩ = false := HDR.out.frozen 1
    go_wp2
    go_ret
    have hkq : k = q := by omega
    refine ⟨rfl, HDR.out.set_ 1 _, ?_, ?_⟩
    . have := HBK.out
      rw [hkq, <- HQ.out, List.take_length] at this
      exact this.far (by exact hbg.symm) _
    . exact (Only.trans' (ho1.mono fun _ _ h => Or.inl h) HOK.out fun _ _ h => Or.inr h).setCell (.inl (.inl rfl)) _
theorem zlh (a : Value) (w : World) : (Go.method 431 23 a "Blocks").run Tryz.prog w = .ok (237, a) w := by kernel_rfl
theorem zu0 (a : Value) (w : World) : (Go.method 431 23 a "Read").run Tryz.prog w = .ok (239, a) w := by kernel_rfl
theorem ztv (a : Value) (w : World) : (Go.method 431 23 a "Write").run Tryz.prog w = .ok (240, a) w := by kernel_rfl
theorem ztw (a : Value) (w : World) : (Go.method 431 23 a "Flush").run Tryz.prog w = .ok (238, a) w := by kernel_rfl
theorem zg9 (w : World) : Calls Tryz.prog 133 #[.nilIface] w fun e w' => e = .returned (.tuple #[]) /\ w = w' := by
 go_enter Tryz.func133, Tryz.ntmps133
 go_wp2
 go_end0
 exact ⟨rfl, rfl⟩
def vol (b : Nat) : Value := .agg #[.iface 23 (.pointer (some ⟨b, 0, none⟩))]
theorem zfe (b n c : Nat) (A : Option Addr) (cv : Value) (m : Nums) (w : World) (h : DkAt w b (.slice A n c) cv m) (hn : n <= 1000) :
   Calls Tryz.prog 103 #[.iface 23 (.pointer (some ⟨b, 0, none⟩))] w fun e w' => e = .returned (.bool (decide (8 <= n) && decide (n <= 400))) /\ w = w' := by
 have HB := zaa (ziz b n c A cv m w h)
 have mB := zlh
 clear h
 by_cases h1 : 8 <= n
 . have q1 : (8 : Int) <= n := by omega
   by_cases h2 : n <= 400
   . have q2 : (n : Int) <= 400 := by omega
     go_enter Tryz.func103, Tryz.ntmps103
     go_wp2_with (go_at_call 237; refine HB.out.mono ?_; rintro e w' ⟨rfl, rfl⟩)
     go_ret
     exact ⟨zeh (by simp [h1, h2]), rfl⟩
   . have q2 : ¬ (n : Int) <= 400 := by omega
     go_enter Tryz.func103, Tryz.ntmps103
     go_wp2_with (go_at_call 237; refine HB.out.mono ?_; rintro e w' ⟨rfl, rfl⟩)
     go_ret
     exact ⟨zeh (by simp [h2]; omega), rfl⟩
 . have q1 : ¬ (8 : Int) <= n := by omega
   go_enter Tryz.func103, Tryz.ntmps103
   go_wp2_with (go_at_call 237; refine HB.out.mono ?_; rintro e w' ⟨rfl, rfl⟩)
   go_ret
   exact ⟨zeh (by simp []), rfl⟩
def Nums.sm (m : Nums) (K : Nat) : Prop := 0 <= m.calls /\ m.calls <= K /\ 0 <= m.writes /\ m.writes <= K /\ 0 <= m.told /\ m.told <= K
def zc8 : Nat := 4611686018427387904
theorem Nums.sm.small {m : Nums} {K : Nat} (h : m.sm K) (hK : K <= zc8) : m.small := by
 unfold zc8 at hK
 obtain ⟨h1, h2, h3, h4, h5, h6⟩ := h
 exact ⟨h1, by omega, h3, by omega, h5, by omega⟩
theorem Nums.sm.mono {m : Nums} {K K' : Nat} (h : m.sm K) (hK : K <= K') : m.sm K' := by
 obtain ⟨h1, h2, h3, h4, h5, h6⟩ := h
 exact ⟨h1, by omega, h3, by omega, h5, by omega⟩
theorem Nums.sm.tick {m : Nums} {K : Nat} (h : m.sm K) : m.tick.sm (K + 1) := by
 obtain ⟨h1, h2, h3, h4, h5, h6⟩ := h
 unfold Nums.tick Nums.sm
 simp only
 split <;> exact ⟨by omega, by omega, by omega, by omega, by omega, by omega⟩
def Nums.wrote (m : Nums) : Nums := { m.tick with writes := m.writes + 1 }
theorem Nums.sm.wrote {m : Nums} {K : Nat} (h : m.sm K) : m.wrote.sm (K + 1) := by
 have := h.tick
 obtain ⟨h1, h2, h3, h4, h5, h6⟩ := h
 obtain ⟨k1, k2, k3, k4, k5, k6⟩ := this
 exact ⟨k1, k2, show 0 <= m.writes + 1 by omega, show m.writes + 1 <= _ by omega, k5, k6⟩
def zcg (bytes : List UInt8) : Nat := bytes.length / 128
theorem zn3 {bytes : List UInt8} {n : Nat} (h : bytes.length = n * 128) : zcg bytes = n := by unfold zcg; omega
structure Dk (w : World) (K b g base n : Nat) (cv : Value) (m : Nums) (bytes : List UInt8) (cache : List (Nat × List UInt8)) : Prop where
 at_ : DkAt w b (.slice (some ⟨g, 0, none⟩) n (zcg bytes)) cv m
 blk : Blk w g 111 (bc bytes).toArray
 len : bytes.length = zcg bytes * 128
 cap : n <= zcg bytes
 own : w.ownsRow base 113 129 cv cache.length (zb8 cache)
 ok : ∀ x ∈ cache, x.1 < n /\ x.2.length = 128
 many : cache.length <= 90000
 num : m.sm K
 fits : n <= 1000
 base_ : base <= w.heap.size
def dfp (b g : Nat) (cv : Value) : Nat -> Prop := fun x => x = b \/ x = g \/ some x = cv.ownBlock
section
variable {w w' : World} {K b g base n : Nat} {cv : Value} {m : Nums} {bytes : List UInt8} {cache : List (Nat × List UInt8)}
theorem Dk.only {fp : Nat -> Prop} (h : Dk w K b g base n cv m bytes cache) (ho : Only fp w w') (hf : ∀ x, dfp b g cv x -> ¬ fp x) : Dk w' K b g base n cv m bytes cache := by
 refine ⟨h.at_.only ho (hf b (.inl rfl)), h.blk.only ho (hf g (.inr (.inl rfl))), h.len, h.cap, ?_, h.ok, h.many, h.num, h.fits, Nat.le_trans h.base_ ho.size⟩
 refine ⟨h.own.1, ?_⟩
 rcases h.own.2 with h0 | ⟨g', cap, cur, hv, hb, hg, hr⟩
 . exact .inl h0
 . exact .inr ⟨g', cap, cur, hv, hb, ho.blk (t := 113) hg (hf g' (.inr (.inr (by rw [hv]; rfl)))), hr⟩
theorem Dk.dlen (h : Dk w K b g base n cv m bytes cache) {i : Nat} (hi : i < n) : (zal bytes cache i).length = 128 := zg8 bytes cache i (zcg bytes) (Nat.lt_of_lt_of_le hi h.cap) h.len fun x hx => (h.ok x hx).2
theorem Dk.below (h : Dk w K b g base n cv m bytes cache) (hb : Below w.heap.size w w') : Dk w' K b g base n cv m bytes cache := h.only (fp := fun _ => False) (Only.of_below hb) fun _ _ k => k
theorem Dk.more {K' : Nat} (h : Dk w K b g base n cv m bytes cache) (hK : K <= K') : Dk w K' b g base n cv m bytes cache := ⟨h.at_, h.blk, h.len, h.cap, h.own, h.ok, h.many, h.num.mono hK, h.fits, h.base_⟩
theorem Dk.drew (h : Dk w K b g base n cv m bytes cache) : Dk w.drew K b g base n cv m bytes cache := h.below (Below.drew (Below.refl _ _))
theorem Dk.lt (h : Dk w K b g base n cv m bytes cache) {x : Nat} (hx : dfp b g cv x) : x < w.heap.size := by
 rcases hx with rfl | rfl | hx
 . exact h.at_.lt
 . exact h.blk.lt
 . exact (zaz h.own hx.symm).2
end
set_option maxHeartbeats 1000000 in
theorem zqe (K b g base n i : Nat) (cv : Value) (m : Nums) (bytes : List UInt8) (cache : List (Nat × List UInt8)) (w : World) (h : Dk w K b g base n cv m bytes cache) (hb : m.bad = false) (hi : i < n) (hK : K < zc8) :
   Calls Tryz.prog 172 #[vol b, .int .i64 i] w fun e w' => ∃ g', e = .returned (.slice (some ⟨g', 0, none⟩) 128 128) /\ Dk w' (K + 1) b g base n cv m.tick bytes cache /\
    Blk w' g' 5 (bc (zal bytes cache i)).toArray /\ w.heap.size <= g' /\ Only (fun x => x = b) w w' := by
 have h' := h.below ((Below.refl _ _).alloc (Nat.le_refl _) (Obj.cells #[.iface 23 (.pointer (some ⟨b, 0, none⟩))] 147))
 have HR := zaa (zr0 b i n (zcg bytes) g base cache.length cv m bytes cache _ h'.at_ (h.num.small (by omega)) hb hi h.fits h'.blk h.len h.cap h'.own (fun x hx => (h.ok x hx).2) rfl (by have := h.many; omega))
 have mR := zu0
 have H := zaa h
 have H' := zaa h'
 clear h h'
 unfold vol
 go_enter Tryz.func172, Tryz.ntmps172
 go_wp2_with (first
  | (go_at_call 239; refine HR.out.mono ?_; rintro e w1 ⟨g', rfl, hd, hg, hz, ho⟩)
  | (go_at_call 133; refine (zg9 _).mono ?_; rintro e w' ⟨rfl, rfl⟩))
 go_ret
 rw [World.size_alloc] at hz
 have hbl : ∀ {x : Nat}, x ≠ b -> ¬ (fun x => x = b) x := fun h => h
 have hg' := Blk.only H'.out.blk ho (hbl (H'.out.at_.ne_ H'.out.blk (by decide)).symm)
 have ho' := zak H'.out.own ho (zdg H'.out.at_ (by decide))
 exact ⟨g', rfl, ⟨hd, hg', H.out.len, H.out.cap, ho', H.out.ok, H.out.many, H.out.num.tick, H.out.fits, Nat.le_trans H'.out.base_ ho.size⟩, hg, by omega, (((Only.refl _ _).alloc _).trans ho)⟩
set_option maxHeartbeats 1000000 in
theorem zor (K b g base n i k c : Nat) (A : Option Addr) (cv : Value) (m : Nums) (bytes data : List UInt8) (cache : List (Nat × List UInt8)) (w : World) (h : Dk w K b g base n cv m bytes cache) (hb : m.bad = false) (hi : i < n) (hK : K < zc8)
   (hr : SlU w A k c data) (hk : k <= 128) (hm : cache.length < 90000) :
   Calls Tryz.prog 92 #[vol b, .int .i64 i, .slice A k c] w fun e w' => ∃ cv', e = .returned (.tuple #[]) /\ Dk w' (K + 1) b g base n cv' m.wrote bytes (cache ++ [(i, pad 128 data)]) /\
    Only (dfp b g cv) w w' /\ ∀ x, dfp b g cv' x -> dfp b g cv x \/ w.heap.size <= x := by
 have hbel : Below w.heap.size w (w.alloc (Obj.cells #[.iface 23 (.pointer (some ⟨b, 0, none⟩))] 147)) := (Below.refl _ _).alloc (Nat.le_refl _) _
 have h' := h.below hbel
 have HR := zaa (zqc b i n c k (zcg bytes) base cache.length A (some ⟨g, 0, none⟩) cv m data cache _ h'.at_ (h.num.small (by omega)) hb hi h.fits h'.own (by omega) (hr.below hbel) hk h'.base_)
 have mR := ztv
 have H := zaa h
 have H' := zaa h'
 have HRL := zaa hr.1
 clear h h' hr hbel
 unfold vol
 go_enter Tryz.func92, Tryz.ntmps92
 go_wp2_with (first
  | (go_at_call 240; refine HR.out.mono ?_; rintro e w1 ⟨cv', rfl, hd, hown, hat, ho⟩)
  | (go_at_call 133; refine (zg9 _).mono ?_; rintro e w' ⟨rfl, rfl⟩))
 go_end0
 have hgn : g ≠ b := (H'.out.at_.ne_ H'.out.blk (by decide)).symm
 have hgc : some g ≠ cv.ownBlock := fun e => zae H'.out.own H'.out.blk (by decide) e.symm
 have hg' := Blk.only H'.out.blk ho (fun hx => hx.elim hgn hgc)
 refine ⟨cv', rfl, ⟨hd, hg', H.out.len, H.out.cap, by rw [List.length_append]; exact hown, ?_, by rw [List.length_append]; simp only [List.length_cons, List.length_nil]; omega, H.out.num.wrote, H.out.fits, Nat.le_trans H'.out.base_ ho.size⟩, ?_, ?_⟩
 . intro x hx
   rcases List.mem_append.1 hx with hx | hx
   . exact H.out.ok x hx
   . rw [List.mem_singleton.1 hx]
     exact ⟨hi, zgc _ _ (by rw [HRL.out]; exact hk)⟩
 . refine Only.trans ((Only.refl _ _).alloc _) (ho.mono fun x _ hx => hx.elim .inl fun h => .inr (.inr h))
 . intro x hx
   rcases hx with hx | hx | hx
   . exact .inl (.inl hx)
   . exact .inl (.inr (.inl hx))
   . rcases hat with e | ⟨g', e, hz⟩
     . exact .inl (.inr (.inr (by rw [<- e]; exact hx)))
     . right
       rw [World.size_alloc] at hz
       rw [e] at hx
       injection hx with hx
       omega
set_option maxHeartbeats 1000000 in
theorem zgd (K b g base n : Nat) (cv : Value) (m : Nums) (bytes : List UInt8) (cache : List (Nat × List UInt8)) (w : World) (h : Dk w K b g base n cv m bytes cache) (hb : m.bad = false) (hK : K < zc8) :
   Calls Tryz.prog 94 #[vol b] w fun e w' => e = .returned (.tuple #[]) /\ Dk w' (K + 1) b g base n (.slice none 0 0) m.tick (zcf bytes cache) [] /\ Only (fun x => x = b \/ x = g) w w' := by
 have hbel : Below w.heap.size w (w.alloc (Obj.cells #[.iface 23 (.pointer (some ⟨b, 0, none⟩))] 147)) := (Below.refl _ _).alloc (Nat.le_refl _) _
 have h' := h.below hbel
 have HR := zaa (zqd b n (zcg bytes) g base cache.length cv m bytes cache _ h'.at_ (h.num.small (by omega)) hb h.fits h'.blk h.len h.cap h'.own h.ok rfl (by have := h.many; omega))
 have mR := ztw
 have H := zaa h
 have H' := zaa h'
 clear h h' hbel
 unfold vol
 go_enter Tryz.func94, Tryz.ntmps94
 go_wp2_with (first
  | (go_at_call 238; refine HR.out.mono ?_; rintro e w1 ⟨rfl, hd, hg, ho⟩)
  | (go_at_call 133; refine (zg9 _).mono ?_; rintro e w' ⟨rfl, rfl⟩))
 go_end0
 have hlf := zev cache bytes H.out.len (fun x hx => ⟨Nat.lt_of_lt_of_le (H.out.ok x hx).1 H.out.cap, (H.out.ok x hx).2⟩)
 have hce := zn3 hlf
 exact ⟨rfl, ⟨by rw [hce]; exact hd, hg, by rw [hce]; exact hlf, by rw [hce]; exact H.out.cap, ⟨rfl, .inl ⟨rfl, rfl⟩⟩, (fun x hx => by cases hx), Nat.zero_le _, H.out.num.tick, H.out.fits, Nat.le_trans H'.out.base_ ho.size⟩, ((Only.refl _ _).alloc _).trans ho⟩
end Go.Proofs.YtemondlgcmpbbaaGreatDoor
