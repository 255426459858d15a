/- Zo Zp Ve Zq Zc: merged. -/
import Derived.Test.YtemondlgcmpbbaaGreatDoorMX26
import Derived.Test.YtemondlgcmpbbaaGreatDoorMX01
import Derived.Deep.DeepCutAuto
namespace Go.Proofs.YtemondlgcmpbbaaGreatDoor
open Go.RowKit
set_option maxRecDepth 100000
theorem zs1 : (Tryz.prog.info? 3).map (fun i => (i.zero, i.size, i.bytes)) = some (some (.int .i64 0), 1, 8) := by kernel_rfl
theorem zuj : (Tryz.prog.info? 235).map (fun i => (i.zero, i.size, i.bytes)) = some (some (.pointer none), 1, 8) := by kernel_rfl
structure VIs (w : World) (B N wb : Nat) (keepv disksv : Value) (xs : List Value) (ds : List DiI) : Prop where
 at_ : Blk w wb 186 #[keepv, disksv]
 keep : w.ownsRow B 3 1 keepv xs.length xs
 disks : w.ownsRow B 235 1 disksv ds.length (ds.map fun d => pkv d.p)
 each : ∀ d ∈ ds, DiIs w B N d
 nd : (ds.flatMap DiI.own).Nodup
 olo : ∀ d ∈ ds, ∀ y ∈ d.own, B <= y
 kl : xs.length <= N
 dl : ds.length <= N
 lo : B <= wb
def VI (w : World) (B N wb : Nat) : Prop := ∃ keepv disksv xs ds, VIs w B N wb keepv disksv xs ds
def wfp (wb : Nat) (keepv disksv : Value) (y : Nat) : Prop := y = wb \/ some y = keepv.ownBlock \/ some y = disksv.ownBlock
section
variable {w w' : World} {B N wb : Nat} {keepv disksv : Value} {xs : List Value} {ds : List DiI}
theorem VIs.more (h : VIs w B N wb keepv disksv xs ds) : VIs w B (N + 1) wb keepv disksv xs ds :=
 ⟨h.at_, h.keep, h.disks, fun d hd => (h.each d hd).more, h.nd, h.olo, by have := h.kl; omega, by have := h.dl; omega, h.lo⟩
theorem VIs.below (h : VIs w B N wb keepv disksv xs ds) (hb : Below w.heap.size w w') : VIs w' B N wb keepv disksv xs ds :=
 ⟨h.at_.below hb h.at_.lt, zap h.keep hb, zap h.disks hb, fun d hd => (h.each d hd).below hb, h.nd, h.olo, h.kl, h.dl, h.lo⟩
theorem VIs.wfp_ne (h : VIs w B N wb keepv disksv xs ds) {y : Nat} {T : TypeId} {cs : Array Value} (hy : Blk w y T cs) (h1 : T ≠ 186) (h2 : T ≠ 3) (h3 : T ≠ 235) : ¬ wfp wb keepv disksv y := fun e => by
 rcases e with e | e | e
 . subst e; exact Blk.ne_ hy h.at_ h1 rfl
 . exact zae h.keep hy h2.symm e.symm
 . exact zae h.disks hy h3.symm e.symm
theorem VIs.wfp_lo (h : VIs w B N wb keepv disksv xs ds) {y : Nat} (hy : wfp wb keepv disksv y) : B <= y := by
 rcases hy with e | e | e
 . have := h.lo; omega
 . exact (zaz h.keep e.symm).1
 . exact (zaz h.disks e.symm).1
theorem VIs.own_ne (h : VIs w B N wb keepv disksv xs ds) : some wb ≠ keepv.ownBlock /\ some wb ≠ disksv.ownBlock := ⟨fun e => zae h.keep h.at_ (by decide) e.symm, fun e => zae h.disks h.at_ (by decide) e.symm⟩
theorem VIs.wfp_kf (h : VIs w B N wb keepv disksv xs ds) : KF (wfp wb keepv disksv) w := fun z T cs hz hk => h.wfp_ne hz (fun e => by subst e; revert hk; decide) (fun e => by subst e; revert hk; decide) (fun e => by subst e; revert hk; decide)
theorem VIs.wfp_own (h : VIs w B N wb keepv disksv xs ds) {d : DiI} (hd : d ∈ ds) {y : Nat} (hy : y ∈ d.own) : ¬ wfp wb keepv disksv y := fun e => by
 have ho := (h.each d hd).own y hy
 rcases e with e | e | e
 . subst e; exact ho.ne h.at_ (by decide) rfl
 . obtain ⟨_, _, _, cur, hb, _⟩ := (zad h.keep).choose_spec.choose_spec.2.2.2.1 y e.symm
   exact ho.ne hb (by decide) rfl
 . obtain ⟨_, _, _, cur, hb, _⟩ := (zad h.disks).choose_spec.choose_spec.2.2.2.1 y e.symm
   exact ho.ne hb (by decide) rfl
theorem VIs.each_only (h : VIs w B N wb keepv disksv xs ds) (ho : Only (wfp wb keepv disksv) w w') : ∀ d ∈ ds, DiIs w' B N d := fun d hd => (h.each d hd).only ho h.wfp_kf fun _ hy => h.wfp_own hd hy
theorem VIs.own_lt (h : VIs w B N wb keepv disksv xs ds) {d : DiI} (hd : d ∈ ds) {y : Nat} (hy : y ∈ d.own) : y < w.heap.size := ((h.each d hd).own y hy).lt
theorem VIs.turn {a b : List DiI} {d d' : DiI} (h : VIs w B N wb keepv disksv xs (a ++ d :: b)) (hd : DiIs w' B (N + 1) d') (ht : Turned w w' d d') (hB : B <= w.heap.size) : VIs w' B (N + 1) wb keepv disksv xs (a ++ d' :: b) := by
 have hown := (h.each d (by simp)).own
 have hne : ∀ {z : Nat} {T : TypeId} {cs : Array Value}, Blk w z T cs -> zhu T = true -> ¬ z ∈ d.own := fun hz hk hf => (hown _ hf).ne hz hk rfl
 have hkf : KF (· ∈ d.own) w := KF.of hown
 have hnd := h.nd
 rw [List.flatMap_append, List.flatMap_cons, <- List.append_assoc] at hnd
 have hdis : ∀ e ∈ a ++ b, ∀ y ∈ e.own, ¬ y ∈ d.own := by
  intro e he y hy hy'
  rw [List.mem_append] at he
  rcases he with he | he
  . exact (List.nodup_append.1 (List.nodup_append.1 hnd).1).2.2 y (List.mem_flatMap.2 ⟨e, he, hy⟩) y hy' rfl
  . exact (List.nodup_append.1 hnd).2.2 y (by simp [hy']) y (List.mem_flatMap.2 ⟨e, he, hy⟩) rfl
 have hlt : ∀ y ∈ a.flatMap DiI.own ++ d.own ++ b.flatMap DiI.own, y < w.heap.size := by
  intro y hy
  rw [List.append_assoc, <- List.flatMap_cons, <- List.flatMap_append] at hy
  obtain ⟨e, he, hy⟩ := List.mem_flatMap.1 hy
  exact h.own_lt he hy
 refine ⟨h.at_.only ht.only (hne h.at_ (by decide)), zak h.keep ht.only (fun x cs hx => hne hx (by decide)), ?_, ?_, ?_, ?_, by have := h.kl; omega, by have := h.dl; simp only [List.length_append, List.length_cons] at this ⊢; omega, h.lo⟩
 . have := zak h.disks ht.only (fun x cs hx => hne hx (by decide))
   simp only [List.length_append, List.length_cons, List.map_append, List.map_cons] at this ⊢
   rw [ht.p]
   exact this
 . intro e he
   rcases List.mem_append.1 he with k | k
   . exact ((h.each e (by simp [k])).only ht.only hkf (hdis e (by simp [k]))).more
   . rcases List.mem_cons.1 k with rfl | k
     . exact hd
     . exact ((h.each e (by simp [k])).only ht.only hkf (hdis e (by simp [k]))).more
 . rw [List.flatMap_append, List.flatMap_cons, <- List.append_assoc]
   exact zdw hnd hlt ht.nd ht.own
 . intro e he y hy
   rcases List.mem_append.1 he with k | k
   . exact h.olo e (by simp [k]) y hy
   . rcases List.mem_cons.1 k with rfl | k
     . rcases ht.own y hy with k | k
       . exact h.olo d (by simp) y k
       . omega
     . exact h.olo e (by simp [k]) y hy
theorem VIs.low {d d' : DiI} (h : VIs w B N wb keepv disksv xs ds) (hd : d ∈ ds) (ht : Turned w w' d d') (hB : B <= w.heap.size) : Below B w w' := ht.only.to_below hB fun y hy => h.olo d hd y hy
end
def OwnPost (B N wb : Nat) (w : World) (r : Bool) : Ending -> World -> Prop := fun e w' => e = .returned (.bool r) /\ VI w' B (N + 1) wb /\ Below B w w'
def zjn (w : World) : Ending -> World -> Prop := fun e w' => e = .returned (.bool false) /\ Below w.heap.size w w'
section
variable {B N wb : Nat} {w : World} {o : OpS}
set_option maxHeartbeats 1000000 in
theorem zpq (h : VI w B N wb) (hB : B <= w.heap.size) (hk : o.kind = 2) :
   Calls Tryz.prog 146 #[.pointer (some ⟨wb, 0, none⟩), .agg o.cells] w (OwnPost B N wb w true) := by
 obtain ⟨keepv, disksv, xs, ds, h⟩ := h
 obtain ⟨kind, x, y, a, b, s, t⟩ := o
 simp only at hk
 subst hk
 have hb0 : Below w.heap.size w (w.alloc (.cells (OpS.cells ⟨2, x, y, a, b, s, t⟩) 124)) := (Below.refl _ _).alloc (Nat.le_refl _) _
 have h0 := h.below hb0
 have c0 : w.cell? ⟨wb, 0, none⟩ = some keepv := zab h.at_ 0 rfl
 have c0' := fun o => zaj o c0
 have f0' : ∀ o, (w.alloc o).frozen? ⟨wb, 0, none⟩ = false := fun o => (h.at_.alloc o).frozen 0
 have H0 := zaa h0
 have HB0 := zaa hb0
 have hlo := h.lo
 clear h h0 hb0
 unfold OpS.cells at *
 go_enter Tryz.func146, Tryz.ntmps146
 go_wp2
 go_ret
 obtain ⟨W0, hW0⟩ : ∃ W0, W0 = w.alloc (.cells (OpS.cells ⟨2, x, y, a, b, s, t⟩) 124) := ⟨_, rfl⟩
 have h0 : VIs W0 B N wb keepv disksv xs ds := by rw [hW0]; exact H0.out
 have hz0 : Below w.heap.size w W0 := by rw [hW0]; exact HB0.out
 show OwnPost B N wb w true _ ((w.alloc (.cells (OpS.cells ⟨2, x, y, a, b, s, t⟩) 124)).setCell ⟨wb, 0, none⟩ (.slice none 0 0))
 rw [<- hW0]
 have hoW : Only (· = wb) W0 (W0.setCell ⟨wb, 0, none⟩ (.slice none 0 0)) := Only.set1 _ _ _ _
 have hfp : ∀ {y : Nat} {T : TypeId} {cs : Array Value}, Blk W0 y T cs -> T ≠ 186 -> ¬ y = wb := fun hy hT e => by subst e; exact Blk.ne_ hy h0.at_ hT rfl
 refine ⟨rfl, ⟨.slice none 0 0, disksv, [], ds, ⟨h0.at_.set_ 0 _, World.ownsRow_nil _ _ _ _, zak h0.disks hoW (fun _ _ hx => hfp hx (by decide)), fun d hd => (h0.each_only (hoW.mono fun _ _ e => .inl e) d hd).more, h0.nd, h0.olo, Nat.zero_le _, by have := h0.dl; omega, h0.lo⟩⟩, ?_⟩
 exact (hz0.mono hB).trans (hoW.to_below (Nat.le_trans hB hz0.size) (fun x hx => by omega))
set_option maxHeartbeats 2000000 in
theorem zpr (h : VI w B N wb) (hB : B <= w.heap.size) (hN : N <= 16384) (hk : o.kind = 1) :
   Calls Tryz.prog 146 #[.pointer (some ⟨wb, 0, none⟩), .agg o.cells] w (OwnPost B N wb w true) := by
 obtain ⟨i0, hi0, hi1, hi2, hi3⟩ := info_parts zs1
 obtain ⟨keepv, disksv, xs, ds, h⟩ := h
 obtain ⟨A, c, rfl, _⟩ := zad h.keep
 obtain ⟨kind, x, y, a, b, s, t⟩ := o
 simp only at hk
 subst hk
 obtain ⟨W0, hW0⟩ : ∃ W0, W0 = w.alloc (.cells (OpS.cells ⟨1, x, y, a, b, s, t⟩) 124) := ⟨_, rfl⟩
 have hz0 : Below w.heap.size w W0 := by rw [hW0]; exact (Below.refl _ _).alloc (Nat.le_refl _) _
 have h0 := h.below hz0
 have hop : Blk W0 w.heap.size 124 (OpS.cells ⟨1, x, y, a, b, s, t⟩) := by rw [hW0]; exact Blk.new _ _ _
 have c0 : W0.cell? ⟨wb, 0, none⟩ = some (.slice A xs.length c) := zab h0.at_ 0 rfl
 have c3 : W0.cell? ⟨w.heap.size, 3, none⟩ = some (.int .i64 a) := zab hop 3 rfl
 have hkl := h.kl
 have hlo := h.lo
 have HOP := zaa hop
 have HW0 := zaa hW0
 have HI0 := zaa hi0
 have HI1 := zaa hi1
 have HI2 := zaa hi2
 have HI3 := zaa hi3
 have H0 := zaa h0
 have HB0 := zaa hz0
 clear h h0 hz0 hop hi0 hi1 hi2 hi3 hW0
 unfold OpS.cells at *
 go_enter Tryz.func146, Tryz.ntmps146
 go_upto_region 4 with fail
 have hg : w.alloc (.cells #[.int .i64 1, .int .i64 x, .int .i64 y, .int .i64 a, .int .i64 b, .string s, .string t] 124) = W0 := HW0.out.symm
 rw [hg]
 clear hg
 have c0' := fun o => zaj o c0
 refine wp_region_held_drew (S := fun w' => w'.cell? ⟨w.heap.size, 3, none⟩ = some (.int .i64 a)) (by kernel_rfl) c3 ?_
 intro hS0
 refine zai (i := 0) (v := (.pointer (some ⟨wb, 0, none⟩))) (some 14) rfl rfl (by kernel_rfl) (by kernel_rfl) (by kernel_rfl) (fun _ _ _ h => h) (Or.inl ⟨rfl, fun w' hSw => by go_simp⟩) hS0 ?_
 simp only [Act.put, List.setIfInBounds_toArray, List.set_cons_zero, List.set_cons_succ]
 refine zai (i := 1) (v := (.pointer (some ⟨wb, 0, none⟩))) (some 15) rfl rfl (by kernel_rfl) (by kernel_rfl) (by kernel_rfl) (fun _ _ _ h => h) (Or.inl ⟨rfl, fun w' hSw => by go_simp⟩) hS0 ?_
 simp only [Act.put, List.setIfInBounds_toArray, List.set_cons_zero, List.set_cons_succ]
 refine zai (i := 2) (v := (.pointer (some ⟨wb, 0, none⟩))) (some 16) rfl rfl (by kernel_rfl) (by kernel_rfl) (by kernel_rfl) (fun _ _ _ h => h) (Or.inl ⟨rfl, fun w' hSw => by go_simp⟩) hS0 ?_
 simp only [Act.put, List.setIfInBounds_toArray, List.set_cons_zero, List.set_cons_succ]
 refine zai (i := 3) (v := (.pointer (some ⟨wb, 0, none⟩))) (some 17) rfl rfl (by kernel_rfl) (by kernel_rfl) (by kernel_rfl) (fun _ _ _ h => h) (Or.inl ⟨rfl, fun w' hSw => by go_simp⟩) hS0 ?_
 simp only [Act.put, List.setIfInBounds_toArray, List.set_cons_zero, List.set_cons_succ]
 refine zai (i := 5) (v := (.pointer (some ⟨w.heap.size, 3, none⟩))) (some 19) rfl rfl (by kernel_rfl) (by kernel_rfl) (by kernel_rfl) (fun _ _ _ h => h) (Or.inl ⟨rfl, fun w' hSw => by go_simp⟩) hS0 ?_
 simp only [Act.put, List.setIfInBounds_toArray, List.set_cons_zero, List.set_cons_succ]
 refine zai (i := 6) (v := (.int .i64 a)) (some 20) rfl rfl (by kernel_rfl) (by kernel_rfl) (by kernel_rfl) (fun _ _ _ h => h) (Or.inl ⟨rfl, fun w' hSw => by go_simp⟩) hS0 ?_
 simp only [Act.put, List.setIfInBounds_toArray, List.set_cons_zero, List.set_cons_succ]
 refine zew (i := 4) (j := 7) (vi := (.slice A xs.length c)) (vj := (.slice (some ⟨W0.heap.size, 0, none⟩) 1 1)) (w' := W0.drew.alloc (.cells #[.int .i64 a] 3)) (some 18) (some 21) (by kernel_rfl) (by kernel_rfl) (by kernel_rfl) (by kernel_rfl) rfl rfl rfl rfl rfl rfl rfl rfl (by go_simp) (by go_simp) (by go_simp) (by go_simp) hS0 (zaj _ hS0) rfl ?_
 simp only [Act.put, List.setIfInBounds_toArray, List.set_cons_zero, List.set_cons_succ]
 refine zaw (i := 8) (by kernel_rfl) rfl rfl ?_
 have hz : w.heap.size <= W0.heap.size := HB0.out.size
 refine zdk _ (.tmp 18) (.tmp 21) 51 rfl B 3 i0 (.int .i64 0) 1 8 Tryz.underlying51 HI0.out HI1.out HI2.out HI3.out rfl (by decide) (.slice A xs.length c) xs.length xs rfl (H0.out.keep.drew.alloc _) (W0.heap.size + 1) (some ⟨W0.heap.size, 0, none⟩) 1 1 [.int .i64 a] rfl
  ⟨rfl, fun _ => ⟨_, rfl, Nat.lt_succ_self _, fun j u hu => by rw [Addr.add_lit]; exact (Blk.new W0.drew 3 #[.int .i64 a]).range (cur := [.int .i64 a]) (o := 0) rfl j u hu⟩⟩ (fun u hu => by rw [List.mem_singleton.1 hu]; rfl) (by unfold maxLen; omega) (by omega) (by simp only [World.size_alloc]; show B <= W0.heap.size + 1; omega) ?_
 intro v' w4 hown4 hgr4 hat4
 have hopl : some w.heap.size ≠ (Value.slice A xs.length c).ownBlock := fun e => zae H0.out.keep HOP.out (by decide) e.symm
 have hS4 : w4.cell? ⟨w.heap.size, 3, none⟩ = some (.int .i64 a) := zab ((HOP.out.drew.alloc _).grown hgr4 hopl) 3 rfl
 refine ⟨hS4, ?_⟩
 obtain ⟨A4, c4, rfl, _⟩ := zad hown4
 change wpAnyH _ _ _ _ _ _ _ (Act.put _ (some 22) (.slice A4 (xs.length + 1) c4)) _
 simp only [Act.put, List.setIfInBounds_toArray, List.set_cons_zero, List.set_cons_succ]
 have hoA : Only (wfp wb (.slice A xs.length c) disksv) W0 w4 := Only.grown ((Only.refl _ _).drew.alloc _) hgr4 (fun g e => .inl (.inr (.inl e.symm)))
 have hat4' : Blk w4 wb 186 #[.slice A xs.length c, disksv] := (H0.out.at_.drew.alloc _).grown hgr4 H0.out.own_ne.1
 have hdk4 : w4.ownsRow B 235 1 disksv ds.length (ds.map fun d => pkv d.p) := zak (H0.out.disks.drew.alloc _) (Only.grown (fp := fun y => some y = (Value.slice A xs.length c).ownBlock) (Only.refl _ _) hgr4 (fun g e => .inl e.symm)) (fun y cs hy e => zae (H0.out.keep.drew.alloc _) hy (by decide) e.symm)
 have c40 : w4.cell? ⟨wb, 0, none⟩ = some (.slice A xs.length c) := zab hat4' 0 rfl
 have f40 : w4.frozen? ⟨wb, 0, none⟩ = false := hat4'.frozen 0
 have HO4 := zaa hoA
 have HAT := zaa hat4'
 have HDK := zaa hdk4
 have HOWN := zaa hown4
 clear hoA hat4' hdk4 hown4 hgr4 hat4 c0 c3 c0'
 refine zai (i := 9) (v := (.pointer (some ⟨wb, 0, none⟩))) (some 23) rfl rfl (by kernel_rfl) (by kernel_rfl) (by kernel_rfl) (fun _ _ _ h => h) (Or.inl ⟨rfl, fun w' hSw => by go_simp⟩) hS4 ?_
 simp only [Act.put, List.setIfInBounds_toArray, List.set_cons_zero, List.set_cons_succ]
 refine zai (i := 10) (v := (.pointer (some ⟨wb, 0, none⟩))) (some 24) rfl rfl (by kernel_rfl) (by kernel_rfl) (by kernel_rfl) (fun _ _ _ h => h) (Or.inl ⟨rfl, fun w' hSw => by go_simp⟩) hS4 ?_
 simp only [Act.put, List.setIfInBounds_toArray, List.set_cons_zero, List.set_cons_succ]
 refine zaw (i := 11) (by kernel_rfl) rfl rfl ?_
 go_simp
 refine wpAnyH_done (by kernel_rfl) ?_ _
 obtain ⟨W5, hW5⟩ : ∃ W5, W5 = w4.setCell ⟨wb, 0, none⟩ (.slice A4 (xs.length + 1) c4) := ⟨_, rfl⟩
 rw [<- hW5]
 have ho5 : Only (· = wb) w4 W5 := by rw [hW5]; exact Only.set1 _ _ _ _
 have hat5 : Blk W5 wb 186 #[.slice A4 (xs.length + 1) c4, disksv] := by rw [hW5]; exact HAT.out.set_ 0 _
 have HO5 := zaa ho5
 have HAT5 := zaa hat5
 clear hW5 ho5 hat5 c40 f40
 go_wp2
 go_ret
 have hfp : ∀ {y : Nat} {T : TypeId} {cs : Array Value}, Blk w4 y T cs -> T ≠ 186 -> ¬ y = wb := fun hy hT e => by subst e; exact Blk.ne_ hy HAT.out hT rfl
 have hall : Only (wfp wb (.slice A xs.length c) disksv) W0 W5 := HO4.out.trans (HO5.out.mono fun _ _ e => .inl e)
 refine ⟨rfl, ⟨.slice A4 (xs.length + 1) c4, disksv, xs ++ [.int .i64 a], ds, ⟨HAT5.out, ?_, zak HDK.out HO5.out (fun _ _ hx => hfp hx (by decide)), fun d hd => (H0.out.each_only hall d hd).more, H0.out.nd, H0.out.olo, by rw [List.length_append]; simp only [List.length_cons, List.length_nil]; omega, by have := H0.out.dl; omega, H0.out.lo⟩⟩, ?_⟩
 . rw [List.length_append]
   exact zak HOWN.out HO5.out (fun _ _ hx => hfp hx (by decide))
 . exact (HB0.out.mono hB).trans (hall.to_below (by omega) (fun x hx => H0.out.wfp_lo hx))
end
section
variable {B N wb : Nat} {w : World} {o : OpS}
set_option maxHeartbeats 2000000 in
theorem zps (h : VI w B N wb) (hB : B <= w.heap.size) (hN : N <= 16384) (hk : o.kind = 3) :
   Calls Tryz.prog 146 #[.pointer (some ⟨wb, 0, none⟩), .agg o.cells] w (OwnPost B N wb w true) := by
 obtain ⟨i0, hi0, hi1, hi2, hi3⟩ := info_parts zuj
 obtain ⟨keepv, disksv, xs, ds, h⟩ := h
 obtain ⟨A, c, rfl, _⟩ := zad h.disks
 obtain ⟨kind, x, y, a, b, s, t⟩ := o
 simp only at hk
 subst hk
 obtain ⟨W1, hW1⟩ : ∃ W1, W1 = (w.alloc (.cells #[.int .i64 3, .int .i64 x, .int .i64 y, .int .i64 a, .int .i64 b, .string s, .string t] 124)).alloc (.cells #[.pointer none, .int .i64 (blocksN a), .slice none 0 0, .bool false, .slice none 0 0, .bool false, .bool false, .pointer none, .slice none 0 0, .int .i64 0, .bool false, .slice none 0 0, .slice none 0 0, .slice none 0 0] 245) := ⟨_, rfl⟩
 have hz1 : Below w.heap.size w W1 := by rw [hW1]; exact ((Below.refl _ _).alloc (Nat.le_refl _) _).alloc (by simp) _
 have hs1 : W1.heap.size = w.heap.size + 1 + 1 := by rw [hW1]; simp only [World.size_alloc]
 have h1 := h.below hz1
 have hld : Blk W1 (w.heap.size + 1) 245 #[.pointer none, .int .i64 (blocksN a), .slice none 0 0, .bool false, .slice none 0 0, .bool false, .bool false, .pointer none, .slice none 0 0, .int .i64 0, .bool false, .slice none 0 0, .slice none 0 0, .slice none 0 0] := by rw [hW1]; exact Blk.new2 _ _ _ _
 have HN := zaa (zm6 a 0 W1 (Nat.zero_le _))
 have hdl := h.dl
 have HLT := zaa (fun d hd y hy => h.own_lt (d := d) hd (y := y) hy)
 have hlo := h.lo
 have HI0 := zaa hi0
 have HI1 := zaa hi1
 have HI2 := zaa hi2
 have HI3 := zaa hi3
 have H1 := zaa h1
 have HB1 := zaa hz1
 have HLD := zaa hld
 have HW1 := zaa hW1
 clear h h1 hz1 hld hi0 hi1 hi2 hi3 hW1
 unfold OpS.cells
 go_enter Tryz.func146, Tryz.ntmps146
 go_wp2_with (first
  | (go_at_call 174; refine (zqn _ _).mono ?_; rintro e w' ⟨rfl, rfl⟩)
  | (go_at_call 49; go_loud (
     rw [<- HW1.out]
     refine HN.out.mono ?_; rintro e w2 ⟨b2, g2, rfl, hd2, hzb, hzg, hb2⟩
     have hld2 := HLD.out.below hb2 HLD.out.lt
     have h2 := H1.out.below hb2
     have l0 : w2.cell? ⟨w.heap.size + 1, 0, none⟩ = some (.pointer none) := zab hld2 0 rfl
     have lf : w2.frozen? ⟨w.heap.size + 1, 0, none⟩ = false := hld2.frozen 0
     obtain ⟨W3, hW3⟩ : ∃ W3, W3 = w2.setCell ⟨w.heap.size + 1, 0, none⟩ (.pointer (some ⟨b2, 0, none⟩)) := ⟨_, rfl⟩
     have hs2 := hb2.size
     have hs32 : W3.heap.size = w2.heap.size := by rw [hW3]; simp [World.setCell]
     have ho3 : Only (· = w.heap.size + 1) w2 W3 := by rw [hW3]; exact Only.set1 _ _ _ _
     have hld3 : LdAt W3 (w.heap.size + 1) ⟨b2, blocksN a, .slice none 0 0, false, .slice none 0 0, false, false, .pointer none, .slice none 0 0, 0, false, .slice none 0 0, .slice none 0 0, .slice none 0 0⟩ := by rw [hW3]; exact hld2.set_ 0 _
     have hd3 := hd2.only ho3 (fun y hy e => by rcases hy with k | k | k; omega; omega; cases k)
     have hwl : wb < W1.heap.size := H1.out.at_.lt
     have hwl0 : wb < w.heap.size + 1 := by
      rcases Nat.lt_or_ge wb (w.heap.size + 1) with k | k
      . exact k
      . have e : wb = w.heap.size + 1 := by omega
        exact absurd e.symm (Blk.ne_ HLD.out H1.out.at_ (by decide))
     have hb3 : Below (w.heap.size + 1) w2 W3 := ho3.to_below (by omega) (fun x hx => by omega)
     have HA3 := zaa (show Blk W3 wb 186 #[keepv, .slice A ds.length c] from h2.at_.only ho3 (by omega))
     have hk3 : W3.ownsRow B 3 1 keepv xs.length xs := zak h2.keep ho3 (fun y cs hy e => by subst e; exact Blk.ne_ hy hld2 (by decide) rfl)
     have hdk3 : W3.ownsRow B 235 1 (.slice A ds.length c) ds.length (ds.map fun d => pkv d.p) := zak h2.disks ho3 (fun y cs hy e => by subst e; exact Blk.ne_ hy hld2 (by decide) rfl)
     have c21 : w2.cell? ⟨wb, 1, none⟩ = some (.slice A ds.length c) := zab h2.at_ 1 rfl
     have hne2 : ¬ w.heap.size + 1 = wb := by omega
     have c31 : W3.cell? ⟨wb, 1, none⟩ = some (.slice A ds.length c) := zab HA3.out 1 rfl
     have c31' := fun o => zaj o c31
     have HLD3 := zaa hld3
     have HD3 := zaa hd3
     have HK3 := zaa hk3
     have HDK3 := zaa hdk3
     have HB2 := zaa hb2
     have HB3 := zaa hb3
     have HO3 := zaa ho3
     have HW3 := zaa hW3
     clear hd2 hb2 hld2 h2 hld3 hd3 hb3 hk3 hdk3 ho3))
  | (at_builtin
     go_loud (
     rw [<- HW3.out]
     refine zah _ rfl (.tmp 65) (.tmp 67) 184 rfl B 235 i0 (.pointer none) 1 8 Tryz.underlying184 HI0.out HI1.out HI2.out HI3.out rfl (by decide) (.slice A ds.length c) ds.length (ds.map fun d => pkv d.p) rfl (HDK3.out.alloc _) (w2.heap.size + 1) (some ⟨w2.heap.size, 0, none⟩) 1 1 [.pointer (some ⟨w.heap.size + 1, 0, none⟩)] rfl ⟨rfl, fun _ => ⟨_, rfl, Nat.lt_succ_self _, fun j u hu => by rw [Addr.add_lit, <- hs32]; exact (Blk.new W3 235 #[.pointer (some ⟨w.heap.size + 1, 0, none⟩)]).range (cur := [.pointer (some ⟨w.heap.size + 1, 0, none⟩)]) (o := 0) rfl j u hu⟩⟩ (fun u hu => by rw [List.mem_singleton.1 hu]; rfl) (by unfold maxLen; omega) (by omega) (by have := HB2.out.size; have := HB3.out.size; simp only [World.size_alloc]; omega) ?_
     intro v' w4 hown4 hgr4 hat4
     obtain ⟨A4, c4, rfl, _⟩ := zad hown4
     have hoA : Only (fun y => some y = (Value.slice A ds.length c).ownBlock) W3 w4 := Only.grown ((Only.refl _ _).alloc _) hgr4 (fun g e => .inl e.symm)
     have hfA : ∀ {y : Nat} {T : TypeId} {cs : Array Value}, Blk W3 y T cs -> T ≠ 235 -> ¬ some y = (Value.slice A ds.length c).ownBlock := fun hy hT e => zae HDK3.out hy hT.symm e.symm
     have hat4' := HA3.out.only hoA (hfA HA3.out (by decide))
     have c40 : w4.cell? ⟨wb, 1, none⟩ = some (.slice A ds.length c) := zab hat4' 1 rfl
     have f40 : w4.frozen? ⟨wb, 1, none⟩ = false := hat4'.frozen 1
     have HOA := zaa hoA
     have HFA := zaa (show ∀ y T cs, Blk W3 y T cs -> T ≠ 235 -> ¬ some y = (Value.slice A ds.length c).ownBlock from fun y T cs => hfA)
     have HAT4 := zaa hat4'
     have HOWN4 := zaa hown4
     clear hown4 hgr4 hat4 hoA hfA hat4' c31 c31')))
 go_ret
 have hs2 := HB2.out.size
 have hs3 := HO3.out.size
 have hs4 := HOA.out.size
 have ho5 : Only (· = wb) w4 (w4.setCell ⟨wb, 1, none⟩ (.slice A4 (ds.length + 1) c4)) := Only.set1 _ _ _ _
 have hfp : ∀ {y : Nat} {T : TypeId} {cs : Array Value}, Blk w4 y T cs -> T ≠ 186 -> ¬ y = wb := fun hy hT e => by subst e; exact Blk.ne_ hy HAT4.out hT rfl
 have hsz : W1.heap.size = w.heap.size + 1 + 1 := by rw [HW1.out]; simp only [World.size_alloc]
 have hold : ∀ d ∈ ds, DiIs (w4.setCell ⟨wb, 1, none⟩ (.slice A4 (ds.length + 1) c4)) B N d := by
  intro d hd
  have k1 := (H1.out.each d hd).below HB2.out
  have hl2 := HLD.out.below HB2.out HLD.out.lt
  have k2 := k1.only HO3.out (fun z T cs hz hk e => by
   have hz' : z = w.heap.size + 1 := e
   rw [hz'] at hz
   exact Blk.ne_ hz hl2 (fun e => by subst e; revert hk; decide) rfl) (fun y hy e => by have := HLT.out d hd y hy; have e' : y = w.heap.size + 1 := e; omega)
  have k3 := k2.only HOA.out (fun z T cs hz hk => HFA.out _ _ _ hz (fun e => by subst e; revert hk; decide)) (fun y hy e => by
   obtain ⟨_, _, _, _, _, hrow, _⟩ := zad HDK3.out
   obtain ⟨_, _, _, cur, hb, _⟩ := hrow y e.symm
   exact (k2.own y hy).ne hb (by decide) rfl)
  exact k3.only ho5 (fun z T cs hz hk => hfp hz (fun e => by subst e; revert hk; decide)) (fun y hy e => by
   have e' : y = wb := e
   rw [e'] at hy
   exact (k3.own _ hy).ne HAT4.out (by decide) rfl)
 have hldA := HLD3.out.only HOA.out (HFA.out _ _ _ HLD3.out (by decide))
 have hl5 := Blk.only hldA ho5 (hfp hldA (by decide))
 have hdA := HD3.out.only HOA.out (fun y hy e => by
  rcases hy with k | k | k
  . subst k; exact HFA.out _ _ _ HD3.out.at_ (by decide) e
  . subst k; exact HFA.out _ _ _ HD3.out.blk (by decide) e
  . cases k)
 have hd5 := hdA.only ho5 (fun y hy e => by
  rcases hy with k | k | k
  . subst k; exact hfp hdA.at_ (by decide) e
  . subst k; exact hfp hdA.blk (by decide) e
  . cases k)
 have hbg : b2 ≠ g2 := Blk.ne_ hdA.at_ hdA.blk (by decide)
 have hnew : DiIs (w4.setCell ⟨wb, 1, none⟩ (.slice A4 (ds.length + 1) c4)) B N ⟨w.heap.size + 1, b2, g2, none, .slice none 0 0, .slice none 0 0, []⟩ :=
  ⟨_, _, _, 0, 0, ⟨hl5, ⟨MapsAt.nil _, MapsAt.nil _, rfl, rfl, rfl, Nat.zero_le _, Nat.zero_le _⟩, hd5.more (Nat.zero_le _), rfl, Nums.new_calm, ztz _ _, Nat.zero_le _, .inl ⟨zou _, rfl⟩, ⟨by show B <= w.heap.size + 1; omega, by show B <= b2; omega, by show B <= g2; omega⟩, zov a⟩, rfl, rfl, rfl, rfl, ⟨World.ownsRow_nil _ _ _ _, World.ownsRow_nil _ _ _ _, fun e he => by (cases he), Nat.zero_le _⟩⟩
 have hown : (⟨w.heap.size + 1, b2, g2, none, .slice none 0 0, .slice none 0 0, []⟩ : DiI).own = [w.heap.size + 1, b2, g2] := rfl
 refine ⟨rfl, ⟨keepv, .slice A4 (ds.length + 1) c4, xs, ds ++ [⟨w.heap.size + 1, b2, g2, none, .slice none 0 0, .slice none 0 0, []⟩], ⟨HAT4.out.set_ 1 _, ?_, ?_, ?_, ?_, ?_, by have := H1.out.kl; omega, by rw [List.length_append]; simp only [List.length_cons, List.length_nil]; omega, hlo⟩⟩, ?_⟩
 . exact zak (za2 HK3.out HOA.out (fun g e k => zdf HK3.out HDK3.out (by decide) (e.trans k) (by rw [e]; simp))) ho5 (fun _ _ hx => hfp hx (by decide))
 . rw [List.length_append, List.map_append]
   exact zak HOWN4.out ho5 (fun _ _ hx => hfp hx (by decide))
 . intro d hd
   rcases List.mem_append.1 hd with hd | hd
   . exact (hold d hd).more
   . rw [List.mem_singleton.1 hd]; exact hnew.more
 . rw [List.flatMap_append, List.flatMap_cons, List.flatMap_nil, List.append_nil, hown]
   refine List.nodup_append.2 ⟨H1.out.nd, ?_, fun y hy z hz e => ?_⟩
   . simp only [List.nodup_cons, List.mem_cons, List.not_mem_nil, or_false, not_or, not_false_eq_true, List.nodup_nil, and_true]
     exact ⟨⟨by omega, by omega⟩, hbg⟩
   . obtain ⟨d, hd, hy⟩ := List.mem_flatMap.1 hy
     have := HLT.out d hd y hy
     simp only [List.mem_cons, List.not_mem_nil, or_false] at hz
     rcases hz with k | k | k <;> omega
 . intro d hd y hy
   rcases List.mem_append.1 hd with hd | hd
   . exact H1.out.olo d hd y hy
   . rw [List.mem_singleton.1 hd, hown] at hy
     simp only [List.mem_cons, List.not_mem_nil, or_false] at hy
     rcases hy with k | k | k <;> omega
 . have b1 : Below B w W3 := ((HB1.out.mono hB).trans (HB2.out.mono (by omega))).trans (HB3.out.mono (by omega))
   have b2 : Below B W3 w4 := HOA.out.to_below (by omega) (fun x hx => (zaz HDK3.out hx.symm).1)
   exact (b1.trans b2).trans (ho5.to_below (by omega) (fun x hx => by omega))
end
section
variable {P : Program} {w : World} {ops : Array Oper} {rest : List Oper} {op : Oper} {a : Act} {K : Act -> World -> Prop} {Q : Exit -> Act -> World -> Prop} {E : Prop}
end
section
variable {B N wb : Nat} {w : World} {o : OpS}
theorem zs2 (hk : o.kind < 5 \/ 9 < o.kind) :
   Calls Tryz.prog 176 #[.pointer (some ⟨wb, 0, none⟩), .agg o.cells] w (zjn w) := by
 obtain ⟨kind, x, y, a, b, s, t⟩ := o
 simp only at hk
 have hb0 : Below w.heap.size w (w.alloc (.cells #[.int .i64 kind, .int .i64 x, .int .i64 y, .int .i64 a, .int .i64 b, .string s, .string t] 124)) := (Below.refl _ _).alloc (Nat.le_refl _) _
 unfold OpS.cells
 rcases hk with hk | hk
 . go_enter Tryz.func176, Tryz.ntmps176
   go_wp2
   go_ret
   exact ⟨rfl, hb0⟩
 . have hk2 : ¬ kind < 5 := by omega
   go_enter Tryz.func176, Tryz.ntmps176
   go_wp2
   go_ret
   exact ⟨rfl, hb0⟩
theorem zpt (h1 : o.kind ≠ 1) (h2 : o.kind ≠ 2) (h3 : o.kind ≠ 3) (h4 : o.kind ≠ 4) {R : Ending -> World -> Prop}
   (ho : ∀ W, Below w.heap.size w W -> Calls Tryz.prog 176 #[.pointer (some ⟨wb, 0, none⟩), .agg o.cells] W fun e w' => ∃ r, e = .returned (.bool r) /\ R (.returned (.bool r)) w') :
   Calls Tryz.prog 146 #[.pointer (some ⟨wb, 0, none⟩), .agg o.cells] w R := by
 obtain ⟨kind, x, y, a, b, s, t⟩ := o
 simp only at h1 h2 h3 h4
 have hb0 : Below w.heap.size w (w.alloc (.cells #[.int .i64 kind, .int .i64 x, .int .i64 y, .int .i64 a, .int .i64 b, .string s, .string t] 124)) := (Below.refl _ _).alloc (Nat.le_refl _) _
 have HO : Hid (Calls Tryz.prog 176 #[.pointer (some ⟨wb, 0, none⟩), .agg #[.int .i64 kind, .int .i64 x, .int .i64 y, .int .i64 a, .int .i64 b, .string s, .string t]] (w.alloc (.cells #[.int .i64 kind, .int .i64 x, .int .i64 y, .int .i64 a, .int .i64 b, .string s, .string t] 124)) fun e w' => ∃ r, e = .returned (.bool r) /\ R (.returned (.bool r)) w') := zaa (ho _ hb0)
 clear ho
 have e1 : (kind == 1) = false := by simpa using h1
 have e2 : (kind == 2) = false := by simpa using h2
 have e3 : (kind == 3) = false := by simpa using h3
 have e4 : (kind == 4) = false := by simpa using h4
 unfold OpS.cells
 go_enter Tryz.func146, Tryz.ntmps146
 go_wp2_with (go_at_call 176; refine HO.out.mono ?_; rintro e w' ⟨r, rfl, hr⟩)
 exact hr
theorem zid (hk : o.kind <= 0 \/ 9 < o.kind) :
   Calls Tryz.prog 146 #[.pointer (some ⟨wb, 0, none⟩), .agg o.cells] w (zjn w) := by
 refine zpt (by omega) (by omega) (by omega) (by omega) fun W hW => (zs2 (wb := wb) (by omega)).mono ?_
 rintro e w' ⟨rfl, hb⟩
 exact ⟨false, rfl, rfl, hW.trans (hb.mono hW.size)⟩
theorem zpu (h : VI w B N wb) (hB : B <= w.heap.size) (hN : N <= 16384) (hk : o.kind = 1 \/ o.kind = 2 \/ o.kind = 3) :
   Calls Tryz.prog 146 #[.pointer (some ⟨wb, 0, none⟩), .agg o.cells] w (OwnPost B N wb w true) := by
 rcases hk with hk | hk | hk
 . exact zpr h hB hN hk
 . exact zpq h hB hk
 . exact zps h hB hN hk
set_option maxHeartbeats 2000000 in
theorem zs3 (h : VI w B N wb) (hB : B <= w.heap.size) (hN : N <= 16384) (hk : o.kind = 1 \/ o.kind = 2 \/ o.kind = 3) :
   Calls Tryz.prog 108 #[.pointer (some ⟨wb, 0, none⟩), .agg o.cells] w (OwnPost B N wb w true) := by
 obtain ⟨kind, x, y, a, b, s, t⟩ := o
 have hb0 : Below w.heap.size w (w.alloc (.cells #[.int .i64 kind, .int .i64 x, .int .i64 y, .int .i64 a, .int .i64 b, .string s, .string t] 124)) := (Below.refl _ _).alloc (Nat.le_refl _) _
 have h' : VI (w.alloc (.cells #[.int .i64 kind, .int .i64 x, .int .i64 y, .int .i64 a, .int .i64 b, .string s, .string t] 124)) B N wb := by
  obtain ⟨keepv, disksv, xs, ds, h⟩ := h
  exact ⟨_, _, _, _, h.below hb0⟩
 have HO : Hid (Calls Tryz.prog 146 #[.pointer (some ⟨wb, 0, none⟩), .agg #[.int .i64 kind, .int .i64 x, .int .i64 y, .int .i64 a, .int .i64 b, .string s, .string t]] (w.alloc (.cells #[.int .i64 kind, .int .i64 x, .int .i64 y, .int .i64 a, .int .i64 b, .string s, .string t] 124)) (OwnPost B N wb (w.alloc (.cells #[.int .i64 kind, .int .i64 x, .int .i64 y, .int .i64 a, .int .i64 b, .string s, .string t] 124)) true)) := zaa (zpu (o := ⟨kind, x, y, a, b, s, t⟩) h' (Nat.le_trans hB hb0.size) hN  hk)
 have HB0 := zaa hb0
 clear h h' hb0 hk
 unfold OpS.cells
 go_enter Tryz.func108, Tryz.ntmps108
 go_wp2_with (go_at_call 146; refine HO.out.mono ?_; rintro e w' ⟨rfl, hwi, hb⟩)
 go_ret
 exact ⟨rfl, hwi, (HB0.out.mono hB).trans hb⟩
set_option maxHeartbeats 2000000 in
theorem zs4 (h : VI w B N wb) (hB : B <= w.heap.size) (hk : o.kind <= 0) :
   Calls Tryz.prog 108 #[.pointer (some ⟨wb, 0, none⟩), .agg o.cells] w (OwnPost B N wb w true) := by
 obtain ⟨kind, x, y, a, b, s, t⟩ := o
 simp only at hk
 have hb0 : Below w.heap.size w (w.alloc (.cells #[.int .i64 kind, .int .i64 x, .int .i64 y, .int .i64 a, .int .i64 b, .string s, .string t] 124)) := (Below.refl _ _).alloc (Nat.le_refl _) _
 have HO : Hid (Calls Tryz.prog 146 #[.pointer (some ⟨wb, 0, none⟩), .agg #[.int .i64 kind, .int .i64 x, .int .i64 y, .int .i64 a, .int .i64 b, .string s, .string t]] (w.alloc (.cells #[.int .i64 kind, .int .i64 x, .int .i64 y, .int .i64 a, .int .i64 b, .string s, .string t] 124)) (zjn (w.alloc (.cells #[.int .i64 kind, .int .i64 x, .int .i64 y, .int .i64 a, .int .i64 b, .string s, .string t] 124)))) := zaa (zid (o := ⟨kind, x, y, a, b, s, t⟩) (wb := wb) (.inl hk))
 have HB0 := zaa hb0
 have HW := zaa h
 have hop0 : Blk (w.alloc (.cells #[.int .i64 kind, .int .i64 x, .int .i64 y, .int .i64 a, .int .i64 b, .string s, .string t] 124)) w.heap.size 124 #[.int .i64 kind, .int .i64 x, .int .i64 y, .int .i64 a, .int .i64 b, .string s, .string t] := Blk.new _ _ _
 have HOP := zaa hop0
 have k1 : ¬ 20 < kind := by omega
 have k2 : kind < 10 := by omega
 clear h hb0 hop0
 unfold OpS.cells
 go_enter Tryz.func108, Tryz.ntmps108
 go_wp2_with (go_at_call 146; go_loud (
  refine HO.out.mono ?_; rintro e w1 ⟨rfl, hb1⟩
  have hb := HB0.out.trans (hb1.mono HB0.out.size)
  obtain ⟨keepv, disksv, xs, ds, h⟩ := HW.out
  have h1 := h.below hb
  obtain ⟨A, c, rfl, _⟩ := zad h1.disks
  have c1 : w1.cell? ⟨wb, 1, none⟩ = some (.slice A ds.length c) := zab h1.at_ 1 rfl
  have c0 : w1.cell? ⟨w.heap.size, 0, none⟩ = some (.int .i64 kind) := zab (HOP.out.below hb1 HOP.out.lt) 0 rfl
  have H1 := zaa h1
  have HB := zaa hb
  clear hb1 h h1 hb))
 all_goals (go_ret; exact ⟨rfl, ⟨_, _, _, _, H1.out.more⟩, HB.out.mono hB⟩)
end
theorem zmn {t : Tree} (hw : TW t) : zcs t.pairs := hw.leaf.1
theorem AnsV.nil {w : World} {B : Nat} {v : Value} {op : ByteArray} {c : Nat} (h : AnsV w B v op c) (hc : c = 0) : v = .nilIface := by
 rcases h with ⟨_, h⟩ | ⟨h, _⟩
 . exact h
 . exact absurd hc h
theorem AnsV.fault {w : World} {B : Nat} {v : Value} {op : ByteArray} {c : Nat} (h : AnsV w B v op c) (hc : c ≠ 0) : ∃ f, v = zag f /\ zao w f op c := by
 rcases h with ⟨h, _⟩ | ⟨_, f, h1, h2, _⟩
 . exact absurd h hc
 . exact ⟨f, h1, h2⟩
theorem Glob.keep {w w' : World} {fp : Nat -> Prop} (h : Glob w) (ho : Only fp w w') (h0 : ¬ fp 0) : Glob w' := h.only ho h0
theorem zbm {w : World} {l t : Nat} {wr done : Bool} {st : Int} {most : Nat} {T : Tree} {rp : Value} {dn : List Nat} {lv csv : Value} {cs : List CuI} (h : zeg w ⟨l, t, wr, done, st, most, T, rp, dn, lv, csv, cs⟩) :
   w.cell? ⟨l, 0, none⟩ = some (.pointer (some ⟨t, 0, none⟩)) /\ w.cell? ⟨l, 1, none⟩ = some lv /\ w.cell? ⟨l, 2, none⟩ = some (.bool wr) /\ w.cell? ⟨l, 3, none⟩ = some (.bool done) /\ w.cell? ⟨l, 4, none⟩ = some (.int .i64 st) /\ w.cell? ⟨l, 5, none⟩ = some (.int .i64 most) /\ w.cell? ⟨l, 6, none⟩ = some (.int .i64 0) /\ w.cell? ⟨l, 7, none⟩ = some (.int .i64 st) /\ w.cell? ⟨l, 8, none⟩ = some csv :=
 ⟨zab h 0 rfl, zab h 1 rfl, zab h 2 rfl, zab h 3 rfl, zab h 4 rfl, zab h 5 rfl, zab h 6 rfl, zab h 7 rfl, zab h 8 rfl⟩
section
variable {w : World} {B N p x : Nat} {s : LdS} {bv cv : Value} {m : Nums} {τ : TxI} {S : DbS}
set_option maxHeartbeats 2000000 in
theorem zuk (k : Str) (hl : LdAt w p s) (hpoi : s.poi = false) (hdev : DkAt w s.db bv cv m) (hτ : TxOk w x B N τ) (hD : DbAt w x S) (hS : S.poi = false) (hg : Glob w) (hx0 : x ≠ 0) (hk : k.size <= 9223372036854775807) :
   Calls Tryz.prog 185 #[pkv p, pkv τ.l, .string k] w fun e w' => e = .returned (.bool true) /\ DbAt w' x S /\ Only (· = x) w w' := by
 have hpx : p ≠ x := Blk.ne_ hl hD (by decide)
 have hlx : τ.l ≠ x := Blk.ne_ hτ.law hD (by decide)
 have hlen := hτ.len
 obtain ⟨l, t, wr, done, st, most, T, rp, dn, lv, csv, cs⟩ := τ
 obtain ⟨db, n, may, emp, were, wild, bit, xv, c, commits, poi, ts, lists, want⟩ := s
 simp only at hpoi hdev hlen hlx
 subst hpoi
 have HT := zaa (zbc db bv cv m w hdev)
 have hrow : RRow w lv T.pairs := hτ.row
 have hG := zss t x rp T dn wr done st S k w hτ.tx hD hτ.tree hτ.tr (by omega) (by omega)
 have hre : T.get k = ze5 k T.pairs := by rw [hτ.tr.tw.get, zsy (zmn hτ.tr.tw)]
 rw [hS] at hG
 obtain ⟨t0, _⟩ := zbm hτ.law
 obtain ⟨k0, _⟩ := zar hl
 have hrows : ∀ W, Only (· = x) w W -> RRow W lv T.pairs := fun W ho => hrow.only ho (fun z cs hz e => by subst e; exact Blk.ne_ hz hD (by decide) rfl)
 have hcell : ∀ W W2, Only (· = x) w W -> Below W.heap.size W W2 -> W2.cell? ⟨l, 1, none⟩ = some lv /\ W2.cell? ⟨l, 3, none⟩ = some (.bool done) /\ W2.cell? ⟨p, 10, none⟩ = some (.bool false) /\ RRow W2 lv T.pairs /\ Glob W2 := fun W W2 ho hb => by
  have h1 := (Blk.only hτ.law ho hlx)
  have h1 := Blk.below h1 hb h1.lt
  have h2 := Blk.only hl ho hpx
  have h2 := Blk.below h2 hb h2.lt
  exact ⟨zab h1 1 rfl, zab h1 3 rfl, zab h2 10 rfl, (hrows W ho).below hb, (hg.only ho (fun e => hx0 e.symm)).only (fp := fun _ => False) (Only.of_below hb) id⟩
 have hglob : ∀ W, Only (· = x) w W -> Glob W := fun W ho => hg.only ho (fun e => hx0 e.symm)
 have HR := zaa (fun W (h : RRow W lv T.pairs) => zsu lv T.pairs k W h (by omega))
 have HK := zaa (fun W => zmk k W (by omega))
 obtain ⟨r, hr⟩ : ∃ r, r = ze5 k T.pairs := ⟨_, rfl⟩
 rw [<- hr] at HR hre
 have HC := zaa hcell
 have HGL := zaa hglob
 unfold pkv
 clear hτ hl hD hrow hrows hcell hglob hdev hr
 cases done with
 | true =>
   have hm : zbe false true false wr k = 5 := rfl
   rw [hm] at hG
   have HG := zaa hG
   clear hG
   go_enter Tryz.func185, Tryz.ntmps185
   go_wp2_with (first
    | (go_at_call 178; refine HT.out.mono ?_; rintro e w' ⟨rfl, rfl⟩)
    | (go_at_call 41; go_loud (
       refine HG.out.mono ?_; rintro e w1 ⟨v, r1, rfl, _, h2, ha, hd1, _, ho1⟩
       obtain rfl := h2 (by decide)
       obtain ⟨f, rfl, hf⟩ := ha.fault (by decide)
       have HTF := zaa (zbl f 5 _ w1 hf (HGL.out _ ho1))
       have HD1 := zaa hd1
       have HO1 := zaa ho1
       clear ha hd1 ho1 hf h2
       unfold zag at HTF
       unfold zag))
    | (go_at_call 30; go_loud (
       refine HTF.out.mono ?_; rintro e w2 ⟨rfl, hb2⟩
       obtain ⟨l1, l3, p10, hrw, _⟩ := HC.out _ _ HO1.out hb2
       have HRR := zaa (HR.out w2 hrw)
       have HB2 := zaa hb2
       have HBK := zaa (fun W (h : Below w2.heap.size w2 W) => HC.out w1 W HO1.out (hb2.trans (h.mono hb2.size)))
       clear hrw hb2))
    | (go_at_call 179; refine (za6 _ _).mono ?_; rintro e w' ⟨rfl, rfl⟩)
    | (go_at_call 208; refine (HK.out _).mono ?_; rintro e w' ⟨rfl, rfl⟩)
    | (go_at_call 209; go_loud (
       refine HRR.out.mono ?_; rintro e w3 ⟨rfl, hb3⟩
       obtain ⟨l1', l3', p10', _⟩ := HBK.out w3 hb3
       clear l1 l3 p10
       have HB3 := zaa hb3
       clear hb3)))
   all_goals (go_ret; exact ⟨rfl, Blk.below (Blk.below HD1.out HB2.out HD1.out.lt) HB3.out (Blk.below HD1.out HB2.out HD1.out.lt).lt, (HO1.out.below HB2.out).below HB3.out⟩)
 | false =>
   by_cases hkk : 1 <= k.size /\ k.size <= 8
   . have hm : zbe false false false wr k = 0 := by unfold zbe; rw [if_neg (by simp), if_neg (by simp), if_neg (by simp), if_neg (by omega)]
     rw [hm] at hG
     have hkd := decide_eq_true hkk
     rw [hkd] at HK
     have HRE := zaa hre
     have q0 : ((r.getD ⟨#[]⟩).toList == (r.getD ⟨#[]⟩).toList) = true := by simp
     have q1 : (r.isSome == r.isSome) = true := by simp
     have HG := zaa hG
     clear hG
     go_enter Tryz.func185, Tryz.ntmps185
     go_wp2_with (first
      | (go_at_call 178; refine HT.out.mono ?_; rintro e w' ⟨rfl, rfl⟩)
      | (go_at_call 41; go_loud (
         refine HG.out.mono ?_; rintro e w1 ⟨v, r1, rfl, h1, _, ha, hd1, _, ho1⟩
         obtain rfl := (h1 (by simp)).trans HRE.out
         obtain rfl := ha.nil rfl
         have HD1 := zaa hd1
         have HO1 := zaa ho1
         clear ha hd1 ho1 h1))
      | (go_at_call 30; go_loud (
         refine (zcq _).mono ?_; rintro e w2 ⟨rfl, rfl⟩
         have hb2 := Below.refl w1.heap.size w1
         obtain ⟨l1, l3, p10, hrw, _⟩ := HC.out _ _ HO1.out hb2
         have HRR := zaa (HR.out w1 hrw)
         have HB2 := zaa hb2
         have HBK := zaa (fun W (h : Below w1.heap.size w1 W) => HC.out w1 W HO1.out h)
         clear hrw hb2))
      | (go_at_call 179; refine (za6 _ _).mono ?_; rintro e w' ⟨rfl, rfl⟩)
      | (go_at_call 208; refine (HK.out _).mono ?_; rintro e w' ⟨rfl, rfl⟩)
      | (go_at_call 209; go_loud (
         refine HRR.out.mono ?_; rintro e w3 ⟨rfl, hb3⟩
         obtain ⟨l1', l3', p10', _⟩ := HBK.out w3 hb3
         clear l1 l3 p10
         have HB3 := zaa hb3
         clear hb3)))
     all_goals (go_ret; exact ⟨rfl, Blk.below (Blk.below HD1.out HB2.out HD1.out.lt) HB3.out (Blk.below HD1.out HB2.out HD1.out.lt).lt, (HO1.out.below HB2.out).below HB3.out⟩)
   . have hm : zbe false false false wr k = 1 := by unfold zbe; rw [if_neg (by simp), if_neg (by simp), if_neg (by simp), if_pos (by omega)]
     rw [hm] at hG
     have hkd := decide_eq_false hkk
     rw [hkd] at HK
     have HG := zaa hG
     clear hG
     go_enter Tryz.func185, Tryz.ntmps185
     go_wp2_with (first
      | (go_at_call 178; refine HT.out.mono ?_; rintro e w' ⟨rfl, rfl⟩)
      | (go_at_call 41; go_loud (
         refine HG.out.mono ?_; rintro e w1 ⟨v, r1, rfl, _, h2, ha, hd1, _, ho1⟩
         obtain rfl := h2 (by decide)
         obtain ⟨f, rfl, hf⟩ := ha.fault (by decide)
         have HTF := zaa (zbl f 1 _ w1 hf (HGL.out _ ho1))
         have HD1 := zaa hd1
         have HO1 := zaa ho1
         clear ha hd1 ho1 hf h2
         unfold zag at HTF
         unfold zag))
      | (go_at_call 30; go_loud (
         refine HTF.out.mono ?_; rintro e w2 ⟨rfl, hb2⟩
         obtain ⟨l1, l3, p10, hrw, _⟩ := HC.out _ _ HO1.out hb2
         have HRR := zaa (HR.out w2 hrw)
         have HB2 := zaa hb2
         have HBK := zaa (fun W (h : Below w2.heap.size w2 W) => HC.out w1 W HO1.out (hb2.trans (h.mono hb2.size)))
         clear hrw hb2))
      | (go_at_call 179; refine (za6 _ _).mono ?_; rintro e w' ⟨rfl, rfl⟩)
      | (go_at_call 208; refine (HK.out _).mono ?_; rintro e w' ⟨rfl, rfl⟩)
      | (go_at_call 209; go_loud (
         refine HRR.out.mono ?_; rintro e w3 ⟨rfl, hb3⟩
         obtain ⟨l1', l3', p10', _⟩ := HBK.out w3 hb3
         clear l1 l3 p10
         have HB3 := zaa hb3
         clear hb3)))
     all_goals (go_ret; exact ⟨rfl, Blk.below (Blk.below HD1.out HB2.out HD1.out.lt) HB3.out (Blk.below HD1.out HB2.out HD1.out.lt).lt, (HO1.out.below HB2.out).below HB3.out⟩)
end
end Go.Proofs.YtemondlgcmpbbaaGreatDoor
