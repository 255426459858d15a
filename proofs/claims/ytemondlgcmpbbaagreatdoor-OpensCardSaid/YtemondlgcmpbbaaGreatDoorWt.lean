/- Walks: a step on what the caller owns: the list of what survives; a new disk. -/
import Derived.Test.YtemondlgcmpbbaaGreatDoorWv
namespace Go.Proofs.YtemondlgcmpbbaaGreatDoor
open Go.RowKit

theorem info_int : (Tryz.prog.info? 3).map (fun i => (i.zero, i.size, i.bytes)) = some (some (.int .i64 0), 1, 8) := by kernel_rfl
theorem info_pd : (Tryz.prog.info? 235).map (fun i => (i.zero, i.size, i.bytes)) = some (some (.pointer none), 1, 8) := by kernel_rfl

/-- The script's own record has turned. -/
def wfp (wb : Nat) (keepv disksv : Value) (y : Nat) : Prop := y = wb ∨ some y = keepv.ownBlock ∨ some y = disksv.ownBlock
theorem WIs.wfp_ne {w : World} {B N wb : Nat} {keepv disksv : Value} {xs : List Value} {ds : List DkB} (h : WIs w B N wb keepv disksv xs ds) {y : Nat} {T : TypeId} {cs : Array Value} (hy : Blk w y T cs) (h1 : T ≠ 186) (h2 : T ≠ 3) (h3 : T ≠ 235) : ¬ wfp wb keepv disksv y := fun e => by
  rcases e with e | e | e
  · subst e; exact Blk.ne_ hy h.at_ h1 rfl
  · exact own_blk_ne h.keep hy h2.symm e.symm
  · exact own_blk_ne h.disks hy h3.symm e.symm
theorem WIs.each_only {w W : World} {B N wb : Nat} {keepv disksv : Value} {xs : List Value} {ds : List DkB} (h : WIs w B N wb keepv disksv xs ds) (ho : Only (wfp wb keepv disksv) w W) : ∀ d ∈ ds, DiskIs W B N d := by
  intro d hd
  obtain ⟨s, m, bytes, kM, kW, k⟩ := h.each d hd
  exact ⟨s, m, bytes, kM, kW, k.only ho (h.wfp_ne k.at_ (by decide) (by decide) (by decide)) (h.wfp_ne k.dk.at_ (by decide) (by decide) (by decide)) (h.wfp_ne k.dk.blk (by decide) (by decide) (by decide)) (fun x cs hx => h.wfp_ne hx (by decide) (by decide) (by decide))⟩
theorem WIs.wfp_lo {w : World} {B N wb : Nat} {keepv disksv : Value} {xs : List Value} {ds : List DkB} (h : WIs w B N wb keepv disksv xs ds) {y : Nat} (hy : wfp wb keepv disksv y) : B ≤ y := by
  rcases hy with e | e | e
  · have := h.lo; omega
  · exact (ownN_lt h.keep e.symm).1
  · exact (ownN_lt h.disks e.symm).1
theorem WIs.own_ne {w : World} {B N wb : Nat} {keepv disksv : Value} {xs : List Value} {ds : List DkB} (h : WIs w B N wb keepv disksv xs ds) : some wb ≠ keepv.ownBlock ∧ some wb ≠ disksv.ownBlock := ⟨fun e => own_blk_ne h.keep h.at_ (by decide) e.symm, fun e => own_blk_ne h.disks h.at_ (by decide) e.symm⟩

/-- A step on what the caller owns. -/
def OwnPost (B N wb : Nat) (w : World) (r : Bool) : Ending → World → Prop := fun e w' => e = .returned (.bool r) ∧ WI w' B (N + 1) wb ∧ Below B w w'
/-- A step that is none of these: nothing has turned. -/
def NoPost (w : World) : Ending → World → Prop := fun e w' => e = .returned (.bool false) ∧ Below w.heap.size w w'

section
variable {B N wb : Nat} {w : World} {o : OpS}

set_option maxRecDepth 100000 in
set_option maxHeartbeats 1000000 in
theorem owner_none (h : WI w B N wb) (hB : B ≤ w.heap.size) (hk : o.kind = 2) :
    Calls Tryz.prog 146 #[.pointer (some ⟨wb, 0, none⟩), .agg o.cells] w (OwnPost B N wb w true) := by
  obtain ⟨keepv, disksv, xs, ds, h⟩ := h
  obtain ⟨kind, x, y, a, b, s, t⟩ := o
  simp only at hk
  subst hk
  have hb0 : Below w.heap.size w (w.alloc (.cells (OpS.cells ⟨2, x, y, a, b, s, t⟩) 124)) := (Below.refl _ _).alloc (Nat.le_refl _) _
  have h0 := h.below hb0
  have c0 : w.cell? ⟨wb, 0, none⟩ = some keepv := cellOf h.at_ 0 rfl
  have c0' := fun o => cellA o c0
  have f0' : ∀ o, (w.alloc o).frozen? ⟨wb, 0, none⟩ = false := fun o => (h.at_.alloc o).frozen 0
  have H0 := hide h0
  have HB0 := hide hb0
  have hlo := h.lo
  clear h h0 hb0
  unfold OpS.cells at *
  go_enter Tryz.func146, Tryz.ntmps146
  go_wp2
  go_ret
  obtain ⟨W0, hW0⟩ : ∃ W0, W0 = w.alloc (.cells (OpS.cells ⟨2, x, y, a, b, s, t⟩) 124) := ⟨_, rfl⟩
  have h0 : WIs W0 B N wb keepv disksv xs ds := by rw [hW0]; exact H0.out
  have hz0 : Below w.heap.size w W0 := by rw [hW0]; exact HB0.out
  show OwnPost B N wb w true _ ((w.alloc (.cells (OpS.cells ⟨2, x, y, a, b, s, t⟩) 124)).setCell ⟨wb, 0, none⟩ (.slice none 0 0))
  rw [← hW0]
  have hoW : Only (· = wb) W0 (W0.setCell ⟨wb, 0, none⟩ (.slice none 0 0)) := Only.set1 _ _ _ _
  have hfp : ∀ {y : Nat} {T : TypeId} {cs : Array Value}, Blk W0 y T cs → T ≠ 186 → ¬ y = wb := fun hy hT e => by subst e; exact Blk.ne_ hy h0.at_ hT rfl
  refine ⟨rfl, ⟨.slice none 0 0, disksv, [], ds, ⟨h0.at_.set_ 0 _, World.ownsRow_nil _ _ _ _, ownN_only h0.disks hoW (fun _ _ hx => hfp hx (by decide)), fun d hd => (h0.each_only (hoW.mono fun _ _ e => .inl e) d hd).more, h0.apart, Nat.zero_le _, by have := h0.dl; omega, h0.lo⟩⟩, ?_⟩
  exact (hz0.mono hB).trans (hoW.to_below (Nat.le_trans hB hz0.size) (fun x hx => by omega))

set_option maxRecDepth 100000 in
set_option maxHeartbeats 2000000 in
theorem owner_keep (h : WI w B N wb) (hB : B ≤ w.heap.size) (hN : N ≤ 16384) (hk : o.kind = 1) :
    Calls Tryz.prog 146 #[.pointer (some ⟨wb, 0, none⟩), .agg o.cells] w (OwnPost B N wb w true) := by
  obtain ⟨i0, hi0, hi1, hi2, hi3⟩ := info_parts info_int
  obtain ⟨keepv, disksv, xs, ds, h⟩ := h
  obtain ⟨A, c, rfl, _⟩ := ownN_form h.keep
  obtain ⟨kind, x, y, a, b, s, t⟩ := o
  simp only at hk
  subst hk
  obtain ⟨W0, hW0⟩ : ∃ W0, W0 = w.alloc (.cells (OpS.cells ⟨1, x, y, a, b, s, t⟩) 124) := ⟨_, rfl⟩
  have hz0 : Below w.heap.size w W0 := by rw [hW0]; exact (Below.refl _ _).alloc (Nat.le_refl _) _
  have h0 := h.below hz0
  have hop : Blk W0 w.heap.size 124 (OpS.cells ⟨1, x, y, a, b, s, t⟩) := by rw [hW0]; exact Blk.new _ _ _
  have c0 : W0.cell? ⟨wb, 0, none⟩ = some (.slice A xs.length c) := cellOf h0.at_ 0 rfl
  have c3 : W0.cell? ⟨w.heap.size, 3, none⟩ = some (.int .i64 a) := cellOf hop 3 rfl
  have hkl := h.kl
  have hlo := h.lo
  have HOP := hide hop
  have HW0 := hide hW0
  have HI0 := hide hi0
  have HI1 := hide hi1
  have HI2 := hide hi2
  have HI3 := hide hi3
  have H0 := hide h0
  have HB0 := hide hz0
  clear h h0 hz0 hop hi0 hi1 hi2 hi3 hW0
  unfold OpS.cells at *
  go_enter Tryz.func146, Tryz.ntmps146
  go_upto_region 4 with fail
  have hg : w.alloc (.cells #[.int .i64 1, .int .i64 x, .int .i64 y, .int .i64 a, .int .i64 b, .string s, .string t] 124) = W0 := HW0.out.symm
  rw [hg]
  clear hg
  have c0' := fun o => cellA o c0
  refine wp_region_held_drew (S := fun w' => w'.cell? ⟨w.heap.size, 3, none⟩ = some (.int .i64 a)) (by kernel_rfl) c3 ?_
  intro hS0
  refine wpAnyH_takeD (i := 0) (v := (.pointer (some ⟨wb, 0, none⟩))) (some 14) rfl rfl (by kernel_rfl) (by kernel_rfl) (by kernel_rfl) (fun _ _ _ h => h) (Or.inl ⟨rfl, fun w' hSw => by go_simp⟩) hS0 ?_
  simp only [Act.put, List.setIfInBounds_toArray, List.set_cons_zero, List.set_cons_succ]
  refine wpAnyH_takeD (i := 1) (v := (.pointer (some ⟨wb, 0, none⟩))) (some 15) rfl rfl (by kernel_rfl) (by kernel_rfl) (by kernel_rfl) (fun _ _ _ h => h) (Or.inl ⟨rfl, fun w' hSw => by go_simp⟩) hS0 ?_
  simp only [Act.put, List.setIfInBounds_toArray, List.set_cons_zero, List.set_cons_succ]
  refine wpAnyH_takeD (i := 2) (v := (.pointer (some ⟨wb, 0, none⟩))) (some 16) rfl rfl (by kernel_rfl) (by kernel_rfl) (by kernel_rfl) (fun _ _ _ h => h) (Or.inl ⟨rfl, fun w' hSw => by go_simp⟩) hS0 ?_
  simp only [Act.put, List.setIfInBounds_toArray, List.set_cons_zero, List.set_cons_succ]
  refine wpAnyH_takeD (i := 3) (v := (.pointer (some ⟨wb, 0, none⟩))) (some 17) rfl rfl (by kernel_rfl) (by kernel_rfl) (by kernel_rfl) (fun _ _ _ h => h) (Or.inl ⟨rfl, fun w' hSw => by go_simp⟩) hS0 ?_
  simp only [Act.put, List.setIfInBounds_toArray, List.set_cons_zero, List.set_cons_succ]
  refine wpAnyH_takeD (i := 5) (v := (.pointer (some ⟨w.heap.size, 3, none⟩))) (some 19) rfl rfl (by kernel_rfl) (by kernel_rfl) (by kernel_rfl) (fun _ _ _ h => h) (Or.inl ⟨rfl, fun w' hSw => by go_simp⟩) hS0 ?_
  simp only [Act.put, List.setIfInBounds_toArray, List.set_cons_zero, List.set_cons_succ]
  refine wpAnyH_takeD (i := 6) (v := (.int .i64 a)) (some 20) rfl rfl (by kernel_rfl) (by kernel_rfl) (by kernel_rfl) (fun _ _ _ h => h) (Or.inl ⟨rfl, fun w' hSw => by go_simp⟩) hS0 ?_
  simp only [Act.put, List.setIfInBounds_toArray, List.set_cons_zero, List.set_cons_succ]
  refine wpAnyH_two (i := 4) (j := 7) (vi := (.slice A xs.length c)) (vj := (.slice (some ⟨W0.heap.size, 0, none⟩) 1 1)) (w' := W0.drew.alloc (.cells #[.int .i64 a] 3)) (some 18) (some 21) (by kernel_rfl) (by kernel_rfl) (by kernel_rfl) (by kernel_rfl) rfl rfl rfl rfl rfl rfl rfl rfl (by go_simp) (by go_simp) (by go_simp) (by go_simp) hS0 (cellA _ hS0) rfl ?_
  simp only [Act.put, List.setIfInBounds_toArray, List.set_cons_zero, List.set_cons_succ]
  refine wpAnyH_one (i := 8) (by kernel_rfl) rfl rfl ?_
  have hz : w.heap.size ≤ W0.heap.size := HB0.out.size
  refine wp_append_any _ (.tmp 18) (.tmp 21) 51 rfl B 3 i0 (.int .i64 0) 1 8 Tryz.underlying51 HI0.out HI1.out HI2.out HI3.out rfl (by decide) (.slice A xs.length c) xs.length xs rfl (H0.out.keep.drew.alloc _) (W0.heap.size + 1) (some ⟨W0.heap.size, 0, none⟩) 1 1 [.int .i64 a] rfl
    ⟨rfl, fun _ => ⟨_, rfl, Nat.lt_succ_self _, fun j u hu => by rw [Addr.add_lit]; exact (Blk.new W0.drew 3 #[.int .i64 a]).range (cur := [.int .i64 a]) (o := 0) rfl j u hu⟩⟩ (fun u hu => by rw [List.mem_singleton.1 hu]; rfl) (by unfold maxLen; omega) (by omega) (by simp only [World.size_alloc]; show B ≤ W0.heap.size + 1; omega) ?_
  intro v' w4 hown4 hgr4 hat4
  have hopl : some w.heap.size ≠ (Value.slice A xs.length c).ownBlock := fun e => own_blk_ne H0.out.keep HOP.out (by decide) e.symm
  have hS4 : w4.cell? ⟨w.heap.size, 3, none⟩ = some (.int .i64 a) := cellOf ((HOP.out.drew.alloc _).grown hgr4 hopl) 3 rfl
  refine ⟨hS4, ?_⟩
  obtain ⟨A4, c4, rfl, _⟩ := ownN_form hown4
  change wpAnyH _ _ _ _ _ _ _ (Act.put _ (some 22) (.slice A4 (xs.length + 1) c4)) _
  simp only [Act.put, List.setIfInBounds_toArray, List.set_cons_zero, List.set_cons_succ]
  have hoA : Only (wfp wb (.slice A xs.length c) disksv) W0 w4 := Only.grown ((Only.refl _ _).drew.alloc _) hgr4 (fun g e => .inl (.inr (.inl e.symm)))
  have hat4' : Blk w4 wb 186 #[.slice A xs.length c, disksv] := (H0.out.at_.drew.alloc _).grown hgr4 H0.out.own_ne.1
  have hdk4 : w4.ownsRow B 235 1 disksv ds.length (ds.map dptr) := ownN_only (H0.out.disks.drew.alloc _) (Only.grown (fp := fun y => some y = (Value.slice A xs.length c).ownBlock) (Only.refl _ _) hgr4 (fun g e => .inl e.symm)) (fun y cs hy e => own_blk_ne (H0.out.keep.drew.alloc _) hy (by decide) e.symm)
  have c40 : w4.cell? ⟨wb, 0, none⟩ = some (.slice A xs.length c) := cellOf hat4' 0 rfl
  have f40 : w4.frozen? ⟨wb, 0, none⟩ = false := hat4'.frozen 0
  have HO4 := hide hoA
  have HAT := hide hat4'
  have HDK := hide hdk4
  have HOWN := hide hown4
  clear hoA hat4' hdk4 hown4 hgr4 hat4 c0 c3 c0'
  refine wpAnyH_takeD (i := 9) (v := (.pointer (some ⟨wb, 0, none⟩))) (some 23) rfl rfl (by kernel_rfl) (by kernel_rfl) (by kernel_rfl) (fun _ _ _ h => h) (Or.inl ⟨rfl, fun w' hSw => by go_simp⟩) hS4 ?_
  simp only [Act.put, List.setIfInBounds_toArray, List.set_cons_zero, List.set_cons_succ]
  refine wpAnyH_takeD (i := 10) (v := (.pointer (some ⟨wb, 0, none⟩))) (some 24) rfl rfl (by kernel_rfl) (by kernel_rfl) (by kernel_rfl) (fun _ _ _ h => h) (Or.inl ⟨rfl, fun w' hSw => by go_simp⟩) hS4 ?_
  simp only [Act.put, List.setIfInBounds_toArray, List.set_cons_zero, List.set_cons_succ]
  refine wpAnyH_one (i := 11) (by kernel_rfl) rfl rfl ?_
  go_simp
  refine wpAnyH_done (by kernel_rfl) ?_ _
  obtain ⟨W5, hW5⟩ : ∃ W5, W5 = w4.setCell ⟨wb, 0, none⟩ (.slice A4 (xs.length + 1) c4) := ⟨_, rfl⟩
  rw [← hW5]
  have ho5 : Only (· = wb) w4 W5 := by rw [hW5]; exact Only.set1 _ _ _ _
  have hat5 : Blk W5 wb 186 #[.slice A4 (xs.length + 1) c4, disksv] := by rw [hW5]; exact HAT.out.set_ 0 _
  have HO5 := hide ho5
  have HAT5 := hide hat5
  clear hW5 ho5 hat5 c40 f40
  go_wp2
  go_ret
  have hfp : ∀ {y : Nat} {T : TypeId} {cs : Array Value}, Blk w4 y T cs → T ≠ 186 → ¬ y = wb := fun hy hT e => by subst e; exact Blk.ne_ hy HAT.out hT rfl
  have hall : Only (wfp wb (.slice A xs.length c) disksv) W0 W5 := HO4.out.trans (HO5.out.mono fun _ _ e => .inl e)
  refine ⟨rfl, ⟨.slice A4 (xs.length + 1) c4, disksv, xs ++ [.int .i64 a], ds, ⟨HAT5.out, ?_, ownN_only HDK.out HO5.out (fun _ _ hx => hfp hx (by decide)), fun d hd => (H0.out.each_only hall d hd).more, H0.out.apart, by rw [List.length_append]; simp only [List.length_cons, List.length_nil]; omega, by have := H0.out.dl; omega, H0.out.lo⟩⟩, ?_⟩
  · rw [List.length_append]
    exact ownN_only HOWN.out HO5.out (fun _ _ hx => hfp hx (by decide))
  · exact (HB0.out.mono hB).trans (hall.to_below (by omega) (fun x hx => H0.out.wfp_lo hx))
end
end Go.Proofs.YtemondlgcmpbbaaGreatDoor
