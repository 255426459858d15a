/- Walks: Disk.Write. -/
import Derived.Test.YtemondlgcmpbbaaGreatDoorDa
import Derived.Test.YtemondlgcmpbbaaGreatDoorMl
namespace Go.Proofs.YtemondlgcmpbbaaGreatDoor
open Go.RowKit

theorem info_write : (Tryz.prog.info? 113).map (fun i => (i.zero, i.size, i.bytes)) = some (some (.agg Tryz.zeroCells113), 129, 136) := by kernel_rfl
theorem zc_write : Tryz.zeroCells113 = (Value.int .i64 0 :: bc (List.replicate 128 0)).toArray := by kernel_rfl
theorem zc_size : (Value.agg Tryz.zeroCells113).cells.size = 129 := by rw [zc_write]; simp [Value.cells, bc]
theorem size_write : (Tryz.prog.info? 113).map (·.size) = some 129 := by kernel_rfl
theorem size_arr : (Tryz.prog.info? 111).map (·.size) = some 128 := by kernel_rfl
theorem size_u8 : (Tryz.prog.info? 5).map (·.size) = some 1 := by kernel_rfl

/-- One write that waits, as cells. -/
def wcells (x : Nat × List UInt8) : List Value := .int .i64 x.1 :: bc x.2
def ccells (l : List (Nat × List UInt8)) : List Value := l.flatMap wcells
theorem wcells_one (x : Nat × List UInt8) : ∀ u ∈ wcells x, u.oneCell' = true := by
  intro u hu
  rcases List.mem_cons.1 hu with rfl | hu
  · rfl
  · exact bc_one _ u hu
theorem ccells_snoc (l : List (Nat × List UInt8)) (x : Nat × List UInt8) : ccells (l ++ [x]) = ccells l ++ wcells x := by simp [ccells]

/-- Bytes made up to n by noughts. -/
def pad (n : Nat) (l : List UInt8) : List UInt8 := l ++ List.replicate (n - l.length) 0
theorem pad_length (n : Nat) (l : List UInt8) (h : l.length ≤ n) : (pad n l).length = n := by simp [pad]; omega

theorem splice_wcells (i : Nat) (bytes : List UInt8) (_h : bytes.length ≤ 128) : splice (wcells (i, List.replicate 128 0)) 1 (bc bytes) = wcells (i, pad 128 bytes) := by
  simp only [splice, wcells, pad, bc_app, bc_length, List.take_succ_cons, List.take_zero, List.cons_append, List.nil_append, List.cons.injEq, true_and]
  rw [Nat.add_comm, List.drop_succ_cons, ← bc_drop, List.drop_replicate]
theorem wcells_length (x : Nat × List UInt8) : (wcells x).length = x.2.length + 1 := by simp [wcells, bc_length]
theorem ccells_length (l : List (Nat × List UInt8)) (h : ∀ x ∈ l, x.2.length = 128) : (ccells l).length = l.length * 129 := by
  induction l with
  | nil => rfl
  | cons x l ih =>
    have h1 := h x (by simp)
    have h2 := ih fun y hy => h y (by simp [hy])
    simp only [ccells, List.flatMap_cons, List.length_append, List.length_cons] at h2 ⊢
    rw [wcells_length, h1, h2]; omega

theorem ccells_at : ∀ (l : List (Nat × List UInt8)) (k : Nat) (h : k < l.length), (∀ x ∈ l, x.2.length = 128) → ((ccells l).drop (k * 129)).take 129 = wcells l[k]
  | [], _, h, _ => by simp at h
  | x :: l, 0, _, hc => by
    have h1 := hc x (by simp)
    have : (wcells x).length = 129 := by rw [wcells_length, h1]
    simp only [ccells, List.flatMap_cons, Nat.zero_mul, List.drop_zero, List.getElem_cons_zero]
    rw [← this, List.take_left]
  | x :: l, k + 1, h, hc => by
    have h1 := hc x (by simp)
    have h2 : (wcells x).length = 129 := by rw [wcells_length, h1]
    have ih := ccells_at l k (by simpa using h) fun y hy => hc y (by simp [hy])
    simp only [ccells, List.flatMap_cons, List.getElem_cons_succ] at ih ⊢
    rw [show (k + 1) * 129 = (wcells x).length + k * 129 by omega, List.drop_append, Nat.add_sub_cancel_left, List.drop_of_length_le (by omega), List.nil_append, ih]

theorem disk_ne {w : World} {b : Nat} {bv cv : Value} {m : Nums} (h : DkAt w b bv cv m) {T : TypeId} (hT : T ≠ 103) : ∀ x cs, Blk w x T cs → ¬ (fun x => x = b) x := fun x cs hx (e : x = b) => by
  subst e
  exact Blk.ne_ hx h hT rfl

set_option maxRecDepth 100000 in
set_option maxHeartbeats 1000000 in
theorem write_any (b i n c k cb base q : Nat) (A Ab : Option Addr) (cv : Value) (m : Nums) (bytes : List UInt8) (cache : List (Nat × List UInt8)) (w : World) (h : DkAt w b (.slice Ab n cb) cv m) (hs : m.small) (hb : m.bad = false) (hi : i < n) (hn : n ≤ 1000)
    (hcv : w.ownsRow base 113 129 cv q (ccells cache)) (hq : q ≤ 100000) (hr : SlU w A k c bytes) (hk : k ≤ 128) (hbase : base ≤ w.heap.size) :
    Calls Tryz.prog 240 #[.pointer (some ⟨b, 0, none⟩), .int .i64 i, .slice A k c] w fun e w' => ∃ cv', e = .returned .nilIface ∧ DkAt w' b (.slice Ab n cb) cv' { m.tick with writes := m.writes + 1 } ∧
      w'.ownsRow base 113 129 cv' (q + 1) (ccells (cache ++ [(i, pad 128 bytes)])) ∧ (cv'.ownBlock = cv.ownBlock ∨ ∃ g, cv'.ownBlock = some g ∧ w.heap.size ≤ g) ∧ Only (fun x => x = b ∨ some x = cv.ownBlock) w w' := by
  have hblen : bytes.length = k := hr.1
  have HF := hide (fails_any b (.slice Ab n cb) cv m w h hs)
  rw [hb] at HF
  have HM := hide hs
  have HB := hide hb
  have HNE := hide (disk_ne h (T := 5) (by decide))
  have HD := hide h
  have HCV := hide hcv
  have HR := hide hr
  have HL := hide hblen
  have HN1 : Hid ((bc bytes).length = Nat.min k 128) := by rw [bc_length, hblen]; exact (Nat.min_eq_left hk).symm
  have HN2 : Hid (1 + (bc bytes).length ≤ (wcells (i, List.replicate 128 0)).length) := by rw [wcells_length, bc_length, hblen]; simp only [List.length_replicate]; exact (by omega : 1 + k ≤ 128 + 1)
  have HSP := hide (splice_wcells i bytes (by rw [hblen]; exact hk))
  have HBASE := hide hbase
  obtain ⟨i0, hi0, hz0, hz1, hz2⟩ := info_parts info_write
  have HI0 := hide hi0
  have HZ0 := hide hz0
  have HZ1 := hide hz1
  have HZ2 := hide hz2
  clear hs hb h hcv hr hblen hbase hi0 hz0 hz1 hz2
  go_enter Tryz.func240, Tryz.ntmps240
  go_wp2_with (first
    | (go_at_call 241; refine HF.out.mono ?_; rintro e w1 ⟨rfl, hd1, ho1⟩; have HD1 := hide hd1; have HR1 := hide (HR.out.only ho1 HNE.out); clear hd1)
    | (go_at_call 242; refine (none_no b i n cb Ab cv m.tick _ HD1.out hi hn).mono ?_; rintro e w' ⟨rfl, rfl⟩)
    | (refine wpList_copy_splice rfl (.tmp 19) (.tmp 20) 77 77 rfl 5 Tryz.underlying77 size_u8 _ _ _ _ _ _ rfl rfl w1.heap.size 1 (wcells (i, List.replicate 128 0)) 113 (Blk.new w1 _ _) (bc bytes) HN1.out (fun h0 => ⟨rfl, (HR1.out.below ((Below.refl _ _).alloc (Nat.le_refl _) _)).src h0⟩) HN2.out (bc_one _) w1.heap.size w1 ((Below.refl _ _).alloc (Nat.le_refl _) _) (Nat.le_refl _) ?_
       intro w2 hw2 hb2
       have HW2 : Hid (Blk w2 w1.heap.size 113 (wcells (i, pad 128 bytes)).toArray) := by rw [HSP.out] at hw2; exact hw2
       clear hw2)
    | (refine wpList_store_new rfl 113 (.tmp 7) (.tmp 17) rfl _ _ _ (wcells (i, List.replicate 128 0)) rfl (by rw [zc_write]; simp [wcells]; rfl) (by rw [zc_write]; simp [wcells, bc]) size_write (wcells_one _) ?_))
  have hd2 := (HD1.out).below hb2 HD1.out.lt
  have c21 : w2.cell? ⟨b, 1, none⟩ = some cv := cellOf hd2 1 rfl
  have c22 := fun o1 => cellA o1 c21
  have c23 : w2.cell? ⟨b, 3, none⟩ = some (.int .i64 m.tick.writes) := cellOf hd2 3 rfl
  have HD2 := hide hd2
  have hlen : (wcells (i, pad 128 bytes)).length = 129 := by rw [wcells_length, pad_length _ _ (by rw [HL.out]; exact hk)]
  have HLEN := hide hlen
  have hrange : w2.drew.rangeAt w1.heap.size 0 (wcells (i, pad 128 bytes)) := (HW2.out.drew).range (o := 0) (by simp)
  have HRANGE := hide hrange
  clear hd2 hlen hrange
  refine wp_region_held_drew (S := fun w' => w'.rangeAt w1.heap.size 0 (wcells (i, pad 128 bytes))) (by kernel_rfl) HRANGE.out ?_
  intro hS0
  refine wpAnyH_takeD (i := 0) (v := (.pointer (some ⟨b, 0, none⟩))) (some 22) rfl rfl (by kernel_rfl) (by kernel_rfl) (by kernel_rfl) (fun _ _ _ h => h) (Or.inl ⟨rfl, fun w' _ => by go_simp⟩) hS0 ?_
  simp only [Act.put, List.setIfInBounds_toArray, List.set_cons_zero, List.set_cons_succ]
  refine wpAnyH_takeD (i := 1) (v := (.pointer (some ⟨b, 0, none⟩))) (some 23) rfl rfl (by kernel_rfl) (by kernel_rfl) (by kernel_rfl) (fun _ _ _ h => h) (Or.inl ⟨rfl, fun w' _ => by go_simp⟩) hS0 ?_
  simp only [Act.put, List.setIfInBounds_toArray, List.set_cons_zero, List.set_cons_succ]
  refine wpAnyH_takeD (i := 2) (v := (.pointer (some ⟨b, 0, none⟩))) (some 24) rfl rfl (by kernel_rfl) (by kernel_rfl) (by kernel_rfl) (fun _ _ _ h => h) (Or.inl ⟨rfl, fun w' _ => by go_simp⟩) hS0 ?_
  simp only [Act.put, List.setIfInBounds_toArray, List.set_cons_zero, List.set_cons_succ]
  refine wpAnyH_takeD (i := 3) (v := (.pointer (some ⟨b, 1, none⟩))) (some 25) rfl rfl (by kernel_rfl) (by kernel_rfl) (by kernel_rfl) (fun _ _ _ h => h) (Or.inl ⟨rfl, fun w' _ => by go_simp⟩) hS0 ?_
  simp only [Act.put, List.setIfInBounds_toArray, List.set_cons_zero, List.set_cons_succ]
  refine wpAnyH_takeD (i := 5) (v := .agg (wcells (i, pad 128 bytes)).toArray) (some 27) rfl rfl (by kernel_rfl) (by kernel_rfl) (by kernel_rfl) (fun _ _ _ h => h) (yieldsIf_load_mid rfl _ _ rfl w1.heap.size 0 rfl _ _ (fun _ h => h) Tryz.underlying113 rfl (by rw [size_write, HLEN.out])) hS0 ?_
  simp only [Act.put, List.setIfInBounds_toArray, List.set_cons_zero, List.set_cons_succ]
  have HD2b : Blk w2 b 103 _ := HD2.out
  have hlt2 : b < w2.heap.size := HD2b.lt
  refine wpAnyH_two (i := 4) (j := 6) (vi := cv) (vj := .slice (some ⟨w2.heap.size, 0, none⟩) 1 1) (w' := w2.drew.alloc (.cells (wcells (i, pad 128 bytes)).toArray 113)) (some 26) (some 28) (by kernel_rfl) (by kernel_rfl) (by kernel_rfl) (by kernel_rfl) rfl rfl rfl rfl rfl rfl rfl rfl
    (by go_simp) (by go_simp) (run_slice_one 101 113 (.tmp 27) rfl (wcells (i, pad 128 bytes)) rfl i0 _ Tryz.underlying101 HI0.out HZ0.out (by rw [HZ1.out, HLEN.out]) (by rw [HLEN.out]; omega) (by rw [HLEN.out]; omega))
    (run_slice_one 101 113 (.tmp 27) rfl (wcells (i, pad 128 bytes)) rfl i0 _ Tryz.underlying101 HI0.out HZ0.out (by rw [HZ1.out, HLEN.out]) (by rw [HLEN.out]; omega) (by rw [HLEN.out]; omega)) hS0 (World.rangeAt_alloc hS0 _) rfl ?_
  simp only [Act.put, List.setIfInBounds_toArray, List.set_cons_zero, List.set_cons_succ]
  refine wpAnyH_one (i := 7) (by kernel_rfl) rfl rfl ?_
  have hcv1 : w1.ownsRow base 113 129 cv q (ccells cache) := ownN_only HCV.out ho1 (disk_ne HD.out (by decide))
  have hcv2 : (w2.drew.alloc (.cells (wcells (i, pad 128 bytes)).toArray 113)).ownsRow base 113 129 cv q (ccells cache) := (ownN_below hcv1 hb2).drew.alloc _
  have HSZ1 := hide ho1.size
  have HSZ2 := hide hb2.size
  refine wp_append_any _ (.tmp 26) (.tmp 28) 101 rfl base 113 i0 (.agg Tryz.zeroCells113) 129 136 Tryz.underlying101 HI0.out HZ0.out HZ1.out HZ2.out zc_size (by decide) cv q (ccells cache) rfl hcv2 (w2.heap.size + 1) (some ⟨w2.heap.size, 0, none⟩) 1 1 (wcells (i, pad 128 bytes)) rfl
    ⟨by rw [HLEN.out], fun _ => ⟨_, rfl, Nat.lt_succ_self _, fun j u hu => by rw [Addr.add_lit]; exact (Blk.new w2.drew _ _).range (o := 0) (by simp) j u hu⟩⟩ (wcells_one _) (by unfold maxLen; omega) (by omega) (Nat.le_trans HBASE.out (Nat.le_trans HSZ1.out (Nat.le_trans HSZ2.out (by simp)))) ?_
  intro cv' w4 hcv4 hgr4 hat4
  have hne : some b ≠ cv.ownBlock := fun e => own_blk_ne HCV.out HD.out (by decide) e.symm
  have hb3 : Blk (w2.drew.alloc (.cells (wcells (i, pad 128 bytes)).toArray 113)) b 103 _ := HD2b.drew.alloc _
  have hb4 := hb3.grown hgr4 hne
  have c41 : w4.cell? ⟨b, 1, none⟩ = some cv := cellOf hb4 1 rfl
  have f41 : w4.frozen? ⟨b, 1, none⟩ = false := hb4.frozen 1
  obtain ⟨A4, c4, rfl, _⟩ := ownN_form hcv4
  have hS4 : w4.rangeAt w1.heap.size 0 (wcells (i, pad 128 bytes)) := by
    refine (Blk.range (t := 113) (o := 0) ((HW2.out.drew.alloc _).grown hgr4 fun e => ?_) (by simp))
    have := (ownN_lt HCV.out e.symm).2
    have := HSZ1.out
    omega
  have hS5 : (w4.setCell ⟨b, 1, none⟩ (.slice A4 (q + 1) c4)).rangeAt w1.heap.size 0 (wcells (i, pad 128 bytes)) := by
    intro j v hv
    rw [World.cell?_setCell_other _ _ _ _ (fun e => by
      injection e with e
      have := HD1.out.lt
      omega)]
    exact hS4 j v hv
  have HS4 := hide hS4
  have HS5 := hide hS5
  have HB4 := hide hb4
  have HB3 := hide hb3
  have HG4 := hide hgr4
  have HCV4 := hide hcv4
  have HAT4 := hide hat4
  have HNE4 := hide hne
  clear hb4 hb3 hgr4 hcv4 hat4 hne hcv2 hcv1 HD2b hS4 hS5
  refine ⟨HS4.out, ?_⟩
  change wpAnyH _ _ _ _ _ _ _ (Act.put _ (some 29) (.slice A4 (q + 1) c4)) _
  simp only [Act.put, List.setIfInBounds_toArray, List.set_cons_zero, List.set_cons_succ]
  refine wpAnyH_val (i := 8) (w' := w4) (v := .pointer (some ⟨b, 0, none⟩)) (some 30) (by kernel_rfl) rfl rfl rfl (by go_simp) HS4.out ?_
  simp only [Act.put, List.setIfInBounds_toArray, List.set_cons_zero, List.set_cons_succ]
  refine wpAnyH_val (i := 9) (w' := w4) (v := .pointer (some ⟨b, 1, none⟩)) (some 31) (by kernel_rfl) rfl rfl rfl (by go_simp) HS4.out ?_
  simp only [Act.put, List.setIfInBounds_toArray, List.set_cons_zero, List.set_cons_succ]
  refine wpAnyH_skip (i := 10) (w' := w4.setCell ⟨b, 1, none⟩ (.slice A4 (q + 1) c4)) (by kernel_rfl) rfl rfl rfl (by go_simp) HS5.out ?_
  refine wpAnyH_done (by kernel_rfl) ?_ _
  have hb5 := HB4.out.set_ 1 (.slice A4 (q + 1) c4)
  obtain ⟨w5, hw5⟩ : ∃ w5, w5 = w4.setCell ⟨b, 1, none⟩ (.slice A4 (q + 1) c4) := ⟨_, rfl⟩
  have ho5 : Only (fun x => x = b) w4 w5 := by rw [hw5]; exact Only.set1 _ _ _ _
  rw [← hw5] at hb5 ⊢
  have c53 : w5.cell? ⟨b, 3, none⟩ = some (.int .i64 m.tick.writes) := cellOf hb5 3 rfl
  have f53 : w5.frozen? ⟨b, 3, none⟩ = false := hb5.frozen 3
  have m1 : (0 : Int) ≤ m.tick.writes := HM.out.2.2.1
  have m2 : m.tick.writes ≤ 4611686018427387904 := HM.out.2.2.2.1
  have HB5 := hide hb5
  have HO5 := hide ho5
  have HW5 := hide hw5
  clear hb5 ho5 hw5
  go_wp2
  go_ret
  refine ⟨.slice A4 (q + 1) c4, rfl, HB5.out.set_ 3 _, ?_, ?_, ?_⟩
  · rw [ccells_snoc]
    exact ownN_only HCV4.out (HO5.out.set2 3 _) fun x cs hx e => Blk.ne_ hx HB4.out (by decide) e
  · rcases HAT4.out with e | e
    · exact .inl e
    · exact .inr ⟨_, e, Nat.le_trans HSZ1.out (Nat.le_trans HSZ2.out (by simp))⟩
  · refine Only.trans (Only.mono ho1 fun _ _ h => .inl h) (Only.trans' (Only.grown ((Only.of_below hb2).drew.alloc _) HG4.out (fp := fun x => x = b ∨ some x = cv.ownBlock) fun g hg => .inl (.inr hg.symm)) (HO5.out.set2 3 _) fun _ _ h => .inl h)
end Go.Proofs.YtemondlgcmpbbaaGreatDoor
