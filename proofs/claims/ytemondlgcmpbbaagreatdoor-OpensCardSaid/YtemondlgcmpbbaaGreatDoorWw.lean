/- Walks: a step that is none on what the caller owns; a copy of a disk. -/
import Derived.Test.YtemondlgcmpbbaaGreatDoorWu
import Derived.Test.YtemondlgcmpbbaaGreatDoorVe
import Derived.Deep.DeepCutAuto
namespace Go.Proofs.YtemondlgcmpbbaaGreatDoor
open Go.RowKit

section
variable {B N wb : Nat} {w : World} {o : OpS}

set_option maxRecDepth 100000 in
theorem outer_no (hk : o.kind < 5 ∨ 9 < o.kind) :
    Calls Tryz.prog 176 #[.pointer (some ⟨wb, 0, none⟩), .agg o.cells] w (NoPost w) := by
  obtain ⟨kind, x, y, a, b, s, t⟩ := o
  simp only at hk
  have hb0 : Below w.heap.size w (w.alloc (.cells #[.int .i64 kind, .int .i64 x, .int .i64 y, .int .i64 a, .int .i64 b, .string s, .string t] 124)) := (Below.refl _ _).alloc (Nat.le_refl _) _
  unfold OpS.cells
  rcases hk with hk | hk
  · go_enter Tryz.func176, Tryz.ntmps176
    go_wp2
    go_ret
    exact ⟨rfl, hb0⟩
  · have hk2 : ¬ kind < 5 := by omega
    go_enter Tryz.func176, Tryz.ntmps176
    go_wp2
    go_ret
    exact ⟨rfl, hb0⟩

set_option maxRecDepth 100000 in
theorem owner_else (h1 : o.kind ≠ 1) (h2 : o.kind ≠ 2) (h3 : o.kind ≠ 3) (h4 : o.kind ≠ 4) {R : Ending → World → Prop}
    (ho : ∀ W, Below w.heap.size w W → Calls Tryz.prog 176 #[.pointer (some ⟨wb, 0, none⟩), .agg o.cells] W fun e w' => ∃ r, e = .returned (.bool r) ∧ R (.returned (.bool r)) w') :
    Calls Tryz.prog 146 #[.pointer (some ⟨wb, 0, none⟩), .agg o.cells] w R := by
  obtain ⟨kind, x, y, a, b, s, t⟩ := o
  simp only at h1 h2 h3 h4
  have hb0 : Below w.heap.size w (w.alloc (.cells #[.int .i64 kind, .int .i64 x, .int .i64 y, .int .i64 a, .int .i64 b, .string s, .string t] 124)) := (Below.refl _ _).alloc (Nat.le_refl _) _
  have HO : Hid (Calls Tryz.prog 176 #[.pointer (some ⟨wb, 0, none⟩), .agg #[.int .i64 kind, .int .i64 x, .int .i64 y, .int .i64 a, .int .i64 b, .string s, .string t]] (w.alloc (.cells #[.int .i64 kind, .int .i64 x, .int .i64 y, .int .i64 a, .int .i64 b, .string s, .string t] 124)) fun e w' => ∃ r, e = .returned (.bool r) ∧ R (.returned (.bool r)) w') := hide (ho _ hb0)
  clear ho
  have e1 : (kind == 1) = false := by simpa using h1
  have e2 : (kind == 2) = false := by simpa using h2
  have e3 : (kind == 3) = false := by simpa using h3
  have e4 : (kind == 4) = false := by simpa using h4
  unfold OpS.cells
  go_enter Tryz.func146, Tryz.ntmps146
  go_wp2_with (go_at_call 176; refine HO.out.mono ?_; rintro e w' ⟨r, rfl, hr⟩)
  exact hr

set_option maxRecDepth 100000 in
set_option maxHeartbeats 2000000 in
theorem outer_copy (h : WI w B N wb) (hB : B ≤ w.heap.size) (hN : N ≤ 16384) (hok : o.ok) (hk : o.kind = 5) :
    Calls Tryz.prog 176 #[.pointer (some ⟨wb, 0, none⟩), .agg o.cells] w (OwnPost B N wb w true) := by
  obtain ⟨i0, hi0, hi1, hi2, hi3⟩ := info_parts info_pd
  obtain ⟨keepv, disksv, xs, ds, h⟩ := h
  obtain ⟨A, c, rfl, _⟩ := ownN_form h.disks
  obtain ⟨kind, x, y, a, b, s, t⟩ := o
  obtain ⟨_, okx, _, oka, okb⟩ := hok
  simp only at hk okx oka okb
  subst hk
  obtain ⟨W0, hW0⟩ : ∃ W0, W0 = w.alloc (.cells #[.int .i64 5, .int .i64 x, .int .i64 y, .int .i64 a, .int .i64 b, .string s, .string t] 124) := ⟨_, rfl⟩
  have hz0 : Below w.heap.size w W0 := by rw [hW0]; exact (Below.refl _ _).alloc (Nat.le_refl _) _
  have h0 := h.below hz0
  have hop : Blk W0 w.heap.size 124 #[.int .i64 5, .int .i64 x, .int .i64 y, .int .i64 a, .int .i64 b, .string s, .string t] := by rw [hW0]; exact Blk.new _ _ _
  have c1 : w.cell? ⟨wb, 1, none⟩ = some (.slice A ds.length c) := cellOf h.at_ 1 rfl
  have c1' := fun o => cellA o c1
  have hdl := h.dl
  have hlo := h.lo
  have HH := hide h
  have H0 := hide h0
  have HB0 := hide hz0
  have HOP := hide hop
  have HW0 := hide hW0
  have HI0 := hide hi0
  have HI1 := hide hi1
  have HI2 := hide hi2
  have HI3 := hide hi3
  clear h h0 hz0 hop hW0 hi0 hi1 hi2 hi3
  unfold OpS.cells at *
  by_cases hnil : ds.length = 0
  · have e0 : ((ds.length : Int) == 0) = true := by simpa using hnil
    have e0' : (ds.length : Int) = 0 := by omega
    have hds : ds = [] := List.eq_nil_of_length_eq_zero hnil
    go_enter Tryz.func176, Tryz.ntmps176
    go_wp2
    go_ret
    have := H0.out.more
    rw [HW0.out] at this
    have hb := HB0.out
    rw [HW0.out] at hb
    exact ⟨rfl, ⟨_, _, _, _, this⟩, hb.mono hB⟩
  · have e0 : ((ds.length : Int) == 0) = false := by simpa using hnil
    have e0' : ¬ (ds.length : Int) = 0 := by omega
    go_enter Tryz.func176, Tryz.ntmps176
    go_upto_region 5 with fail
    have hg : w.alloc (.cells #[.int .i64 5, .int .i64 x, .int .i64 y, .int .i64 a, .int .i64 b, .string s, .string t] 124) = W0 := HW0.out.symm
    rw [hg]
    clear hg
    have k1 : W0.cell? ⟨wb, 1, none⟩ = some (.slice A ds.length c) := cellOf H0.out.at_ 1 rfl
    have kx : W0.cell? ⟨w.heap.size, 1, none⟩ = some (.int .i64 x) := cellOf HOP.out 1 rfl
    have HP := hide (fun k => pick_fn x ds.length (W0.drewN k) okx (by omega) (by omega))
    have hklt := pickN_lt x ds.length (by omega)
    have HROW : Hid (∃ g, A = some ⟨g, 0, none⟩ ∧ ∀ j v, (ds.map dptr)[j]? = some v → W0.cell? ⟨g, j, none⟩ = some v) := by
      obtain ⟨ad, e, _, hc⟩ := (Reads.of_own H0.out.disks).2 (by omega)
      obtain ⟨g, o, i⟩ := ad
      obtain ⟨_, _, hv, _, _, hrow, _⟩ := ownN_form H0.out.disks
      injection hv with ea
      subst e
      obtain ⟨_, _, e2, _⟩ := hrow g rfl
      rw [← ea] at e2
      injection e2 with e2
      injection e2 with _ eo ei
      subst eo ei
      exact ⟨g, rfl, fun j v hv => by have := hc j v hv; rwa [Addr.add_lit, Nat.zero_add] at this⟩
    obtain ⟨g, rfl, hcell⟩ := HROW.out
    have HCELL := hide hcell
    clear hcell c1 c1'
    obtain ⟨k, hk⟩ : ∃ k, k = pickN x ds.length := ⟨_, rfl⟩
    rw [← hk] at HP hklt
    have HK := hide hk
    have hk1 : (k : Int) < (ds.length : Int) := by omega
    have hk0 : (0 : Int) ≤ (k : Int) := by omega
    have hkc : W0.cell? ⟨g, k, none⟩ = some (dptr ds[k]) := HCELL.out k _ (by simp [hklt])
    unfold dptr at hkc
    clear hk
    go_quiet (first | ((go_at_call 147; exact quiet_same (HP.out _))))
    obtain ⟨s1, m1, bytes, kM, kW, hdk⟩ := H0.out.each ds[k] (List.getElem_mem hklt)
    have hmem : ds[k] ∈ ds := List.getElem_mem hklt
    obtain ⟨dd, hdd⟩ : ∃ dd, dd = ds[k] := ⟨_, rfl⟩
    rw [← hdd] at hdk hmem ⊢
    obtain ⟨AM, cM, AW, cW, eM, eW⟩ := LdAt.form (_p := dd.p) hdk.ok
    obtain ⟨db1, n, may, emp, were, wild, bit, x1, c1, commits, poi, ts, lists, want⟩ := s1
    obtain ⟨hat, ⟨hmay, hwere, e1, e2, e3, hkM, hkW⟩, hdsk, hdb, hcalm, hhz, hfew, hst, hlod, hlt⟩ := hdk
    simp only at eM eW hmay hwere e1 e2 e3 hdsk hdb hlt
    subst eM eW e1 e2 e3 hdb
    obtain ⟨Wq, hWq⟩ : ∃ Wq, Wq = W0.drewN nq := ⟨_, rfl⟩
    rw [← hWq]
    have hbq : Below w.heap.size w Wq := by rw [hWq]; exact below_drewN HB0.out nq
    have hzq : Wq.heap.size = W0.heap.size := by rw [hWq]; rfl
    have hqq : Below W0.heap.size W0 Wq := by rw [hWq]; exact below_drewN (Below.refl _ _) nq
    have hatq : LdAt Wq dd.p _ := Blk.below hat hqq hat.lt
    obtain ⟨q0, q1, q2, q3, q4, q5, q6⟩ := ld_cells hatq
    have hopq := HOP.out.below hqq HOP.out.lt
    have o3 : Wq.cell? ⟨w.heap.size, 3, none⟩ = some (.int .i64 a) := cellOf hopq 3 rfl
    have o4 : Wq.cell? ⟨w.heap.size, 4, none⟩ = some (.int .i64 b) := cellOf hopq 4 rfl
    have o0 : Wq.cell? ⟨w.heap.size, 0, none⟩ = some (.int .i64 5) := cellOf hopq 0 rfl
    have HDQ := hide (hdsk.below hqq)
    have HBY := hide (dbytes_any (5 * N) dd.db dd.g 0 n (.slice none 0 0) m1 bytes [] Wq (hdsk.below hqq))
    have HATQ := hide hatq
    have HQQ := hide hqq
    have HMEM := hide hmem
    have HMAY := hide hmay
    have HWERE := hide hwere
    have HAT0 := hide hat
    have HDSK := hide hdsk
    have HLEN := hide hdsk.len
    clear hWq hdd hat hmay hwere hdsk hatq hopq hqq hmem HCELL kx k1
    go_upto_region 12 with (first
      | (go_at_call 197; first | (with_reducible refine (near_any a _ oka).mono ?_; rintro e w' ⟨k6, rfl, _, rfl⟩) | (with_reducible refine (near_any b _ okb).mono ?_; rintro e w' ⟨k7, rfl, _, rfl⟩))
      | (go_at_call 198; go_loud (
         refine HBY.out.mono ?_; rintro e w2 ⟨rfl, hb2⟩
         have hat2 := Blk.below HATQ.out hb2 HATQ.out.lt
         have r1 : w2.cell? ⟨dd.p, 1, none⟩ = some (.int .i64 n) := cellOf hat2 1 rfl
         have HLA := hide (laid_any n bytes 0 w2 hlt HLEN.out (Nat.zero_le _))
         have HB2 := hide hb2
         have HAT2 := hide hat2
         clear hb2 hat2 q0 q1 q2 q3 q4 q5 q6))
      | (go_at_call 175; go_loud (
         refine HLA.out.mono ?_; rintro e W3 ⟨b3, g3, rfl, hd3, hzb3, hzg3, hb3⟩
         have HD3 := hide hd3
         have HB3 := hide hb3
         have HAT3 := hide (Blk.below HAT2.out hb3 HAT2.out.lt)
         clear hd3 hb3 r1)))
    have hs3 := HB3.out.size
    have hs2 := HB2.out.size
    have hsq := HQQ.out.size
    have hs0 := HB0.out.size
    have hall : Below W0.heap.size W0 W3 := (HQQ.out.trans (HB2.out.mono hsq)).trans (HB3.out.mono (by omega))
    have h3 := H0.out.below hall
    have hat3 : LdAt W3 dd.p ⟨dd.db, n, .slice AM kM cM, false, .slice AW kW cW, false, false, x1, c1, commits, poi, ts, lists, want⟩ := HAT3.out
    obtain ⟨_, t1, t2, t3, t4, t5, t6⟩ := ld_cells hat3
    have c31 : W3.cell? ⟨wb, 1, none⟩ = some (.slice (some ⟨g, 0, none⟩) ds.length c) := cellOf h3.at_ 1 rfl
    have c31a := fun o => cellA o c31
    have c31b := fun o o' => cellA o' (cellA o c31)
    have hSA : ∀ {o : Obj} {W : World}, (W.cell? ⟨dd.p, 1, none⟩ = some (.int .i64 n) ∧ W.cell? ⟨dd.p, 2, none⟩ = some (.slice AM kM cM) ∧ W.cell? ⟨dd.p, 3, none⟩ = some (.bool false) ∧ W.cell? ⟨dd.p, 4, none⟩ = some (.slice AW kW cW) ∧ W.cell? ⟨dd.p, 5, none⟩ = some (.bool false) ∧ W.cell? ⟨dd.p, 6, none⟩ = some (.bool false)) →
        ((W.alloc o).cell? ⟨dd.p, 1, none⟩ = some (.int .i64 n) ∧ (W.alloc o).cell? ⟨dd.p, 2, none⟩ = some (.slice AM kM cM) ∧ (W.alloc o).cell? ⟨dd.p, 3, none⟩ = some (.bool false) ∧ (W.alloc o).cell? ⟨dd.p, 4, none⟩ = some (.slice AW kW cW) ∧ (W.alloc o).cell? ⟨dd.p, 5, none⟩ = some (.bool false) ∧ (W.alloc o).cell? ⟨dd.p, 6, none⟩ = some (.bool false)) :=
      fun ⟨a1, a2, a3, a4, a5, a6⟩ => ⟨cellA _ a1, cellA _ a2, cellA _ a3, cellA _ a4, cellA _ a5, cellA _ a6⟩
    have hSB : ∀ {o o' : Obj} {W : World}, (W.cell? ⟨dd.p, 1, none⟩ = some (.int .i64 n) ∧ W.cell? ⟨dd.p, 2, none⟩ = some (.slice AM kM cM) ∧ W.cell? ⟨dd.p, 3, none⟩ = some (.bool false) ∧ W.cell? ⟨dd.p, 4, none⟩ = some (.slice AW kW cW) ∧ W.cell? ⟨dd.p, 5, none⟩ = some (.bool false) ∧ W.cell? ⟨dd.p, 6, none⟩ = some (.bool false)) →
        (((W.alloc o).alloc o').cell? ⟨dd.p, 1, none⟩ = some (.int .i64 n) ∧ ((W.alloc o).alloc o').cell? ⟨dd.p, 2, none⟩ = some (.slice AM kM cM) ∧ ((W.alloc o).alloc o').cell? ⟨dd.p, 3, none⟩ = some (.bool false) ∧ ((W.alloc o).alloc o').cell? ⟨dd.p, 4, none⟩ = some (.slice AW kW cW) ∧ ((W.alloc o).alloc o').cell? ⟨dd.p, 5, none⟩ = some (.bool false) ∧ ((W.alloc o).alloc o').cell? ⟨dd.p, 6, none⟩ = some (.bool false)) :=
      fun h => hSA (hSA h)
    have HALL := hide hall
    have H3 := hide h3
    have HA3 := hide hat3
    have HH0 := hide H0.out
    clear hall h3 hat3 HH H0 HAT2 HATQ HAT3 o0 o3 o4
    refine wp_region_held_drew (S := fun w' => w'.cell? ⟨dd.p, 1, none⟩ = some (.int .i64 n) ∧ w'.cell? ⟨dd.p, 2, none⟩ = some (.slice AM kM cM) ∧ w'.cell? ⟨dd.p, 3, none⟩ = some (.bool false) ∧ w'.cell? ⟨dd.p, 4, none⟩ = some (.slice AW kW cW) ∧ w'.cell? ⟨dd.p, 5, none⟩ = some (.bool false) ∧ w'.cell? ⟨dd.p, 6, none⟩ = some (.bool false)) (by kernel_rfl) ⟨t1, t2, t3, t4, t5, t6⟩ ?_
    intro hS0
    refine wpAnyH_takeD (i := 0) (v := (.pointer (some ⟨wb, 0, none⟩))) (some 60) rfl rfl (by kernel_rfl) (by kernel_rfl) (by kernel_rfl) (fun _ _ _ h => h) (Or.inl ⟨rfl, fun w' hSw => by go_simp⟩) hS0 ?_
    simp only [Act.put, List.setIfInBounds_toArray, List.set_cons_zero, List.set_cons_succ]
    refine wpAnyH_takeD (i := 1) (v := (.pointer (some ⟨wb, 0, none⟩))) (some 61) rfl rfl (by kernel_rfl) (by kernel_rfl) (by kernel_rfl) (fun _ _ _ h => h) (Or.inl ⟨rfl, fun w' hSw => by go_simp⟩) hS0 ?_
    simp only [Act.put, List.setIfInBounds_toArray, List.set_cons_zero, List.set_cons_succ]
    refine wpAnyH_takeD (i := 2) (v := (.pointer (some ⟨wb, 0, none⟩))) (some 62) rfl rfl (by kernel_rfl) (by kernel_rfl) (by kernel_rfl) (fun _ _ _ h => h) (Or.inl ⟨rfl, fun w' hSw => by clear hSw; go_simp⟩) hS0 ?_
    simp only [Act.put, List.setIfInBounds_toArray, List.set_cons_zero, List.set_cons_succ]
    refine wpAnyH_takeD (i := 3) (v := (.pointer (some ⟨wb, 1, none⟩))) (some 63) rfl rfl (by kernel_rfl) (by kernel_rfl) (by kernel_rfl) (fun _ _ _ h => h) (Or.inl ⟨rfl, fun w' hSw => by clear hSw; go_simp⟩) hS0 ?_
    simp only [Act.put, List.setIfInBounds_toArray, List.set_cons_zero, List.set_cons_succ]
    refine wpAnyH_takeD (i := 5) (v := (.pointer (some ⟨b3, 0, none⟩))) (some 65) rfl rfl (by kernel_rfl) (by kernel_rfl) (by kernel_rfl) (fun _ _ _ h => h) (Or.inl ⟨rfl, fun w' hSw => by go_simp⟩) hS0 ?_
    simp only [Act.put, List.setIfInBounds_toArray, List.set_cons_zero, List.set_cons_succ]
    refine wpAnyH_takeD (i := 6) (v := (.pointer (some ⟨dd.p, 0, none⟩))) (some 66) rfl rfl (by kernel_rfl) (by kernel_rfl) (by kernel_rfl) (fun _ _ _ h => h) (Or.inl ⟨rfl, fun w' hSw => by go_simp⟩) hS0 ?_
    simp only [Act.put, List.setIfInBounds_toArray, List.set_cons_zero, List.set_cons_succ]
    refine wpAnyH_takeD (i := 7) (v := (.pointer (some ⟨dd.p, 0, none⟩))) (some 67) rfl rfl (by kernel_rfl) (by kernel_rfl) (by kernel_rfl) (fun _ _ _ h => h) (Or.inl ⟨rfl, fun w' hSw => by clear hSw; go_simp⟩) hS0 ?_
    simp only [Act.put, List.setIfInBounds_toArray, List.set_cons_zero, List.set_cons_succ]
    refine wpAnyH_takeD (i := 8) (v := (.pointer (some ⟨dd.p, 1, none⟩))) (some 68) rfl rfl (by kernel_rfl) (by kernel_rfl) (by kernel_rfl) (fun _ _ _ h => h) (Or.inl ⟨rfl, fun w' hSw => by clear hSw; go_simp⟩) hS0 ?_
    simp only [Act.put, List.setIfInBounds_toArray, List.set_cons_zero, List.set_cons_succ]
    refine wpAnyH_takeD (i := 9) (v := (.agg #[.int .i64 n, .slice AM kM cM, .bool false, .slice AW kW cW, .bool false, .bool false])) (some 69) rfl rfl (by kernel_rfl) (by kernel_rfl) (by kernel_rfl) (fun _ _ _ h => h) (Or.inl ⟨rfl, fun w' hSw => by obtain ⟨s1, s2, s3, s4, s5, s6⟩ := hSw; go_simp⟩) hS0 ?_
    simp only [Act.put, List.setIfInBounds_toArray, List.set_cons_zero, List.set_cons_succ]
    refine wpAnyH_takeD (i := 10) (v := (.agg #[.pointer (some ⟨b3, 0, none⟩), .int .i64 n, .slice AM kM cM, .bool false, .slice AW kW cW, .bool false, .bool false, .pointer none, .slice none 0 0, .int .i64 0, .bool false, .slice none 0 0, .slice none 0 0, .slice none 0 0])) (some 70) rfl rfl (by kernel_rfl) (by kernel_rfl) (by kernel_rfl) (fun _ _ _ h => h) (Or.inl ⟨rfl, fun w' hSw => by clear hSw; first | (go_simp; done) | (go_simp; rfl)⟩) hS0 ?_
    simp only [Act.put, List.setIfInBounds_toArray, List.set_cons_zero, List.set_cons_succ]
    refine wpAnyH_vee (i := 4) (j := 11) (k := 12) (vi := .slice (some ⟨g, 0, none⟩) ds.length c) (vj := .pointer (some ⟨W3.heap.size, 0, none⟩)) (vk := .slice (some ⟨W3.heap.size + 1, 0, none⟩) 1 1) (w1 := W3.drew.alloc (.cells #[.pointer (some ⟨b3, 0, none⟩), .int .i64 n, .slice AM kM cM, .bool false, .slice AW kW cW, .bool false, .bool false, .pointer none, .slice none 0 0, .int .i64 0, .bool false, .slice none 0 0, .slice none 0 0, .slice none 0 0] 245)) (w2 := (W3.drew.alloc (.cells #[.pointer (some ⟨b3, 0, none⟩), .int .i64 n, .slice AM kM cM, .bool false, .slice AW kW cW, .bool false, .bool false, .pointer none, .slice none 0 0, .int .i64 0, .bool false, .slice none 0 0, .slice none 0 0, .slice none 0 0] 245)).alloc (.cells #[.pointer (some ⟨W3.heap.size, 0, none⟩)] 235)) (some 64) (some 71) (some 72) (by kernel_rfl) (by kernel_rfl) (by kernel_rfl) (by kernel_rfl) (by kernel_rfl) (by kernel_rfl) (by kernel_rfl) (by kernel_rfl) rfl rfl rfl rfl rfl rfl rfl rfl rfl (by clear hS0; go_simp) (by clear hS0; go_simp) (by clear hS0; go_simp) (by clear hS0; go_simp) (by clear hS0; go_simp) (by clear hS0; go_simp) (by clear hS0; go_simp) (by clear hS0; go_simp) hS0 (hSA hS0) (hSB hS0) rfl rfl ?_
    simp only [Act.put, List.setIfInBounds_toArray, List.set_cons_zero, List.set_cons_succ]
    refine wpAnyH_one (i := 13) (by kernel_rfl) rfl rfl ?_
    obtain ⟨W4, hW4⟩ : ∃ W4, W4 = (W3.drew.alloc (.cells #[.pointer (some ⟨b3, 0, none⟩), .int .i64 n, .slice AM kM cM, .bool false, .slice AW kW cW, .bool false, .bool false, .pointer none, .slice none 0 0, .int .i64 0, .bool false, .slice none 0 0, .slice none 0 0, .slice none 0 0] 245)).alloc (.cells #[.pointer (some ⟨W3.heap.size, 0, none⟩)] 235) := ⟨_, rfl⟩
    rw [← hW4]
    have hb4 : Below W3.heap.size W3 W4 := by rw [hW4]; exact ((Below.refl W3.heap.size W3).drew.alloc (Nat.le_refl _) _).alloc (by simp) _
    have hs4 : W4.heap.size = W3.heap.size + 2 := by rw [hW4]; simp only [World.size_alloc]; rfl
    have hnew4 : Blk W4 W3.heap.size 245 #[.pointer (some ⟨b3, 0, none⟩), .int .i64 n, .slice AM kM cM, .bool false, .slice AW kW cW, .bool false, .bool false, .pointer none, .slice none 0 0, .int .i64 0, .bool false, .slice none 0 0, .slice none 0 0, .slice none 0 0] := by rw [hW4]; exact (Blk.new W3.drew _ _).alloc _
    have hptr4 : Blk W4 (W3.heap.size + 1) 235 #[.pointer (some ⟨W3.heap.size, 0, none⟩)] := by rw [hW4]; exact Blk.new2 W3.drew _ _ _
    have h4 := H3.out.below hb4
    have hS4 := hSB (o := .cells #[.pointer (some ⟨b3, 0, none⟩), .int .i64 n, .slice AM kM cM, .bool false, .slice AW kW cW, .bool false, .bool false, .pointer none, .slice none 0 0, .int .i64 0, .bool false, .slice none 0 0, .slice none 0 0, .slice none 0 0] 245) (o' := .cells #[.pointer (some ⟨W3.heap.size, 0, none⟩)] 235) hS0
    rw [← hW4] at hS4
    refine wp_append_any _ (.tmp 64) (.tmp 72) 184 rfl B 235 i0 (.pointer none) 1 8 Tryz.underlying184 HI0.out HI1.out HI2.out HI3.out rfl (by decide) (.slice (some ⟨g, 0, none⟩) ds.length c) ds.length (ds.map dptr) rfl h4.disks (W3.heap.size + 2) (some ⟨W3.heap.size + 1, 0, none⟩) 1 1 [.pointer (some ⟨W3.heap.size, 0, none⟩)] rfl
      ⟨rfl, fun _ => ⟨_, rfl, Nat.lt_succ_self _, fun j u hu => by rw [Addr.add_lit]; exact hptr4.range (cur := [.pointer (some ⟨W3.heap.size, 0, none⟩)]) (o := 0) rfl j u hu⟩⟩ (fun u hu => by rw [List.mem_singleton.1 hu]; rfl) (by unfold maxLen; omega) (by omega) (by omega) ?_
    intro v' w5 hown5 hgr5 hat5
    obtain ⟨A5, c5, rfl, _⟩ := ownN_form hown5
    have hoA : Only (fun y => some y = (Value.slice (some ⟨g, 0, none⟩) ds.length c).ownBlock) W4 w5 := Only.grown (Only.refl _ _) hgr5 (fun g e => .inl e.symm)
    have hfA : ∀ {y : Nat} {T : TypeId} {cs : Array Value}, Blk W4 y T cs → T ≠ 235 → ¬ some y = (Value.slice (some ⟨g, 0, none⟩) ds.length c).ownBlock := fun hy hT e => own_blk_ne h4.disks hy hT.symm e.symm
    have hat5' := h4.at_.only hoA (hfA h4.at_ (by decide))
    have hmem4 := h4.each dd HMEM.out
    have hdp5 : LdAt w5 dd.p ⟨dd.db, n, .slice AM kM cM, false, .slice AW kW cW, false, false, x1, c1, commits, poi, ts, lists, want⟩ := by
      have := Blk.below HA3.out hb4 HA3.out.lt
      exact Blk.only this hoA (hfA this (by decide))
    obtain ⟨_, v1, v2, v3, v4, v5, v6⟩ := ld_cells hdp5
    have hS5 : w5.cell? ⟨dd.p, 1, none⟩ = some (.int .i64 n) ∧ w5.cell? ⟨dd.p, 2, none⟩ = some (.slice AM kM cM) ∧ w5.cell? ⟨dd.p, 3, none⟩ = some (.bool false) ∧ w5.cell? ⟨dd.p, 4, none⟩ = some (.slice AW kW cW) ∧ w5.cell? ⟨dd.p, 5, none⟩ = some (.bool false) ∧ w5.cell? ⟨dd.p, 6, none⟩ = some (.bool false) := ⟨v1, v2, v3, v4, v5, v6⟩
    refine ⟨hS5, ?_⟩
    change wpAnyH _ _ _ _ _ _ _ (Act.put _ (some 73) (.slice A5 (ds.length + 1) c5)) _
    simp only [Act.put, List.setIfInBounds_toArray, List.set_cons_zero, List.set_cons_succ]
    have c50 : w5.cell? ⟨wb, 1, none⟩ = some (.slice (some ⟨g, 0, none⟩) ds.length c) := cellOf hat5' 1 rfl
    have f50 : w5.frozen? ⟨wb, 1, none⟩ = false := hat5'.frozen 1
    have HOA := hide hoA
    have HFA := hide (show ∀ y T cs, Blk W4 y T cs → T ≠ 235 → ¬ some y = (Value.slice (some ⟨g, 0, none⟩) ds.length c).ownBlock from fun y T cs => hfA)
    have HAT5 := hide hat5'
    have HOWN5 := hide hown5
    have H4 := hide h4
    have HB4 := hide hb4
    have HNEW := hide hnew4
    have HDP5 := hide hdp5
    clear hoA hfA hat5' hown5 hgr5 hat5 h4 hb4 hnew4 hptr4 hdp5 c31 c31a c31b hS4 hSA hSB hW4 hS0 hmem4 t1 t2 t3 t4 t5 t6
    refine wpAnyH_takeD (i := 14) (v := (.pointer (some ⟨wb, 0, none⟩))) (some 74) rfl rfl (by kernel_rfl) (by kernel_rfl) (by kernel_rfl) (fun _ _ _ h => h) (Or.inl ⟨rfl, fun w' hSw => by clear hSw; go_simp⟩) hS5 ?_
    simp only [Act.put, List.setIfInBounds_toArray, List.set_cons_zero, List.set_cons_succ]
    refine wpAnyH_takeD (i := 15) (v := (.pointer (some ⟨wb, 1, none⟩))) (some 75) rfl rfl (by kernel_rfl) (by kernel_rfl) (by kernel_rfl) (fun _ _ _ h => h) (Or.inl ⟨rfl, fun w' hSw => by clear hSw; go_simp⟩) hS5 ?_
    simp only [Act.put, List.setIfInBounds_toArray, List.set_cons_zero, List.set_cons_succ]
    refine wpAnyH_one (i := 16) (by kernel_rfl) rfl rfl ?_
    go_simp
    have hwb5 : dd.p ≠ wb := Blk.ne_ HDP5.out HAT5.out (by decide)
    obtain ⟨W6, hW6⟩ : ∃ W6, W6 = w5.setCell ⟨wb, 1, none⟩ (.slice A5 (ds.length + 1) c5) := ⟨_, rfl⟩
    rw [← hW6]
    have ho6 : Only (· = wb) w5 W6 := by rw [hW6]; exact Only.set1 _ _ _ _
    have hat6 : Blk W6 wb 186 #[keepv, .slice A5 (ds.length + 1) c5] := by rw [hW6]; exact HAT5.out.set_ 1 _
    have HO6 := hide ho6
    have HAT6 := hide hat6
    have HDP6 := hide (Blk.only HDP5.out ho6 hwb5)
    clear hW6 ho6 hat6 c50 f50
    refine ⟨cellOf HDP6.out 1 rfl, ?_⟩
    refine wpAnyH_done (by kernel_rfl) ?_ _
    clear v1 v2 v3 v4 v5 v6 hS5
    go_wp2
    go_ret
    have hfp : ∀ {y : Nat} {T : TypeId} {cs : Array Value}, Blk w5 y T cs → T ≠ 186 → ¬ y = wb := fun hy hT e => by subst e; exact Blk.ne_ hy HAT5.out hT rfl
    have hs5 := HOA.out.size
    have hold : ∀ d ∈ ds, DiskIs W6 B N d := by
      intro d hd
      obtain ⟨s2, m2, by2, kM2, kW2, k4⟩ := H4.out.each d hd
      have k5 := k4.only HOA.out (HFA.out _ _ _ k4.at_ (by decide)) (HFA.out _ _ _ k4.dk.at_ (by decide)) (HFA.out _ _ _ k4.dk.blk (by decide)) (fun x cs hx => HFA.out _ _ _ hx (by decide))
      exact ⟨s2, m2, by2, kM2, kW2, k5.only HO6.out (hfp k5.at_ (by decide)) (hfp k5.dk.at_ (by decide)) (hfp k5.dk.blk (by decide)) (fun x cs hx => hfp hx (by decide))⟩
    have hnA := HNEW.out.only HOA.out (HFA.out _ _ _ HNEW.out (by decide))
    have hn6 := Blk.only hnA HO6.out (hfp hnA (by decide))
    have hd4 := HD3.out.below HB4.out
    have hdA := hd4.only HOA.out (fun y hy e => by
      rcases hy with k | k | k
      · subst k; exact HFA.out _ _ _ hd4.at_ (by decide) e
      · subst k; exact HFA.out _ _ _ hd4.blk (by decide) e
      · cases k)
    have hd6 := hdA.only HO6.out (fun y hy e => by
      rcases hy with k | k | k
      · subst k; exact hfp hdA.at_ (by decide) e
      · subst k; exact hfp hdA.blk (by decide) e
      · cases k)
    have hmaps : ∀ {v : Value} {j : Nat}, MapsAt W0 v j → MapsAt W6 v j := fun hm => by
      have h4 := (hm.below HALL.out).below HB4.out
      have h5 := h4.only HOA.out (fun x cs hx => HFA.out _ _ _ hx (by decide))
      exact h5.only HO6.out (fun x cs hx => hfp hx (by decide))
    have hb3l : b3 < W3.heap.size := HD3.out.at_.lt
    have hg3l : g3 < W3.heap.size := HD3.out.blk.lt
    have hnew : DiskIs W6 B N ⟨W3.heap.size, b3, g3⟩ :=
      ⟨⟨b3, n, .slice AM kM cM, false, .slice AW kW cW, false, false, .pointer none, .slice none 0 0, 0, false, .slice none 0 0, .slice none 0 0, .slice none 0 0⟩, Nums.new, bytes, kM, kW, ⟨hn6, ⟨hmaps HMAY.out, hmaps HWERE.out, rfl, rfl, rfl, hkM, hkW⟩, hd6.more (Nat.zero_le _), rfl, Nums.new_calm, hhz, hfew, hst, ⟨show B ≤ W3.heap.size by omega, show B ≤ b3 by omega, show B ≤ g3 by omega⟩, hlt⟩⟩
    have hltd : ∀ d ∈ ds, d.p < W3.heap.size ∧ d.db < b3 ∧ d.g < g3 := by
      intro d hd
      obtain ⟨s2, m2, by2, kM2, kW2, k3⟩ := HH0.out.each d hd
      have := k3.has_lt (.inl rfl)
      have := k3.has_lt (.inr (.inl rfl))
      have := k3.has_lt (.inr (.inr rfl))
      exact ⟨by omega, by omega, by omega⟩
    have hwbo : ∀ x, some x = (Value.slice (some ⟨g, 0, none⟩) ds.length c).ownBlock → B ≤ x := fun x hx => (ownN_lt H4.out.disks hx.symm).1
    refine ⟨rfl, ⟨keepv, .slice A5 (ds.length + 1) c5, xs, ds ++ [⟨W3.heap.size, b3, g3⟩], ⟨HAT6.out, ?_, ?_, ?_, ?_, by have := H4.out.kl; omega, by rw [List.length_append]; simp only [List.length_cons, List.length_nil]; omega, hlo⟩⟩, ?_⟩
    · exact ownN_only (ownN_only' H4.out.keep HOA.out (fun g' e k => own_own_ne H4.out.keep H4.out.disks (by decide) (e.trans k) (by rw [e]; simp))) HO6.out (fun _ _ hx => hfp hx (by decide))
    · rw [List.length_append, List.map_append]
      exact ownN_only HOWN5.out HO6.out (fun _ _ hx => hfp hx (by decide))
    · intro d hd
      rcases List.mem_append.1 hd with hd | hd
      · exact (hold d hd).more
      · rw [List.mem_singleton.1 hd]; exact hnew.more
    · rw [List.pairwise_append]
      refine ⟨H4.out.apart, List.pairwise_singleton _ _, fun e he f hf => ?_⟩
      rw [List.mem_singleton.1 hf]
      have := hltd e he
      exact ⟨show e.p ≠ W3.heap.size by omega, show e.db ≠ b3 by omega, show e.g ≠ g3 by omega⟩
    · have b1 : Below B w W3 := (HB0.out.mono hB).trans (HALL.out.mono (by omega))
      have b2 : Below B W3 W4 := HB4.out.mono (by omega)
      have b3' : Below B W4 w5 := HOA.out.to_below (by omega) hwbo
      exact ((b1.trans b2).trans b3').trans (HO6.out.to_below (by omega) (fun x hx => by omega))
end
end Go.Proofs.YtemondlgcmpbbaaGreatDoor
