/- Walks: a step of a script of Format and Open. -/
import Derived.Test.YtemondlgcmpbbaaGreatDoorWw
namespace Go.Proofs.YtemondlgcmpbbaaGreatDoor
open Go.RowKit

section
variable {B N wb : Nat} {w : World} {o : OpS}

theorem owner_false (hk : o.kind ≤ 0 ∨ 9 < o.kind) :
    Calls Tryz.prog 146 #[.pointer (some ⟨wb, 0, none⟩), .agg o.cells] w (NoPost w) := by
  refine owner_else (by omega) (by omega) (by omega) (by omega) fun W hW => (outer_no (wb := wb) (by omega)).mono ?_
  rintro e w' ⟨rfl, hb⟩
  exact ⟨false, rfl, rfl, hW.trans (hb.mono hW.size)⟩
theorem owner_copy (h : WI w B N wb) (hB : B ≤ w.heap.size) (hN : N ≤ 16384) (hok : o.ok) (hk : o.kind = 5) :
    Calls Tryz.prog 146 #[.pointer (some ⟨wb, 0, none⟩), .agg o.cells] w (OwnPost B N wb w true) := by
  refine owner_else (by omega) (by omega) (by omega) (by omega) fun W hW => ?_
  obtain ⟨keepv, disksv, xs, ds, h⟩ := h
  refine (outer_copy ⟨_, _, _, _, h.below hW⟩ (Nat.le_trans hB hW.size) hN hok hk).mono ?_
  rintro e w' ⟨rfl, hwi, hb⟩
  exact ⟨true, rfl, rfl, hwi, (hW.mono hB).trans hb⟩
theorem owner_true (h : WI w B N wb) (hB : B ≤ w.heap.size) (hN : N ≤ 16384) (hok : o.ok) (hk : o.kind = 1 ∨ o.kind = 2 ∨ o.kind = 3 ∨ o.kind = 5) :
    Calls Tryz.prog 146 #[.pointer (some ⟨wb, 0, none⟩), .agg o.cells] w (OwnPost B N wb w true) := by
  rcases hk with hk | hk | hk | hk
  · exact owner_keep h hB hN hk
  · exact owner_none h hB hk
  · exact owner_disk h hB hN hk
  · exact owner_copy h hB hN hok hk

set_option maxRecDepth 100000 in
set_option maxHeartbeats 2000000 in
theorem step_own (h : WI w B N wb) (hB : B ≤ w.heap.size) (hN : N ≤ 16384) (hok : o.ok) (hk : o.kind = 1 ∨ o.kind = 2 ∨ o.kind = 3 ∨ o.kind = 5) :
    Calls Tryz.prog 108 #[.pointer (some ⟨wb, 0, none⟩), .agg o.cells] w (OwnPost B N wb w true) := by
  obtain ⟨kind, x, y, a, b, s, t⟩ := o
  have hb0 : Below w.heap.size w (w.alloc (.cells #[.int .i64 kind, .int .i64 x, .int .i64 y, .int .i64 a, .int .i64 b, .string s, .string t] 124)) := (Below.refl _ _).alloc (Nat.le_refl _) _
  have h' : WI (w.alloc (.cells #[.int .i64 kind, .int .i64 x, .int .i64 y, .int .i64 a, .int .i64 b, .string s, .string t] 124)) B N wb := by
    obtain ⟨keepv, disksv, xs, ds, h⟩ := h
    exact ⟨_, _, _, _, h.below hb0⟩
  have HO : Hid (Calls Tryz.prog 146 #[.pointer (some ⟨wb, 0, none⟩), .agg #[.int .i64 kind, .int .i64 x, .int .i64 y, .int .i64 a, .int .i64 b, .string s, .string t]] (w.alloc (.cells #[.int .i64 kind, .int .i64 x, .int .i64 y, .int .i64 a, .int .i64 b, .string s, .string t] 124)) (OwnPost B N wb (w.alloc (.cells #[.int .i64 kind, .int .i64 x, .int .i64 y, .int .i64 a, .int .i64 b, .string s, .string t] 124)) true)) := hide (owner_true (o := ⟨kind, x, y, a, b, s, t⟩) h' (Nat.le_trans hB hb0.size) hN hok hk)
  have HB0 := hide hb0
  clear h h' hb0 hk hok
  unfold OpS.cells
  go_enter Tryz.func108, Tryz.ntmps108
  go_wp2_with (go_at_call 146; refine HO.out.mono ?_; rintro e w' ⟨rfl, hwi, hb⟩)
  go_ret
  exact ⟨rfl, hwi, (HB0.out.mono hB).trans hb⟩

set_option maxRecDepth 100000 in
set_option maxHeartbeats 2000000 in
theorem step_low (h : WI w B N wb) (hB : B ≤ w.heap.size) (hk : o.kind ≤ 0) :
    Calls Tryz.prog 108 #[.pointer (some ⟨wb, 0, none⟩), .agg o.cells] w (OwnPost B N wb w true) := by
  obtain ⟨kind, x, y, a, b, s, t⟩ := o
  simp only at hk
  have hb0 : Below w.heap.size w (w.alloc (.cells #[.int .i64 kind, .int .i64 x, .int .i64 y, .int .i64 a, .int .i64 b, .string s, .string t] 124)) := (Below.refl _ _).alloc (Nat.le_refl _) _
  have HO : Hid (Calls Tryz.prog 146 #[.pointer (some ⟨wb, 0, none⟩), .agg #[.int .i64 kind, .int .i64 x, .int .i64 y, .int .i64 a, .int .i64 b, .string s, .string t]] (w.alloc (.cells #[.int .i64 kind, .int .i64 x, .int .i64 y, .int .i64 a, .int .i64 b, .string s, .string t] 124)) (NoPost (w.alloc (.cells #[.int .i64 kind, .int .i64 x, .int .i64 y, .int .i64 a, .int .i64 b, .string s, .string t] 124)))) := hide (owner_false (o := ⟨kind, x, y, a, b, s, t⟩) (wb := wb) (.inl hk))
  have HB0 := hide hb0
  have HW := hide h
  have hop0 : Blk (w.alloc (.cells #[.int .i64 kind, .int .i64 x, .int .i64 y, .int .i64 a, .int .i64 b, .string s, .string t] 124)) w.heap.size 124 #[.int .i64 kind, .int .i64 x, .int .i64 y, .int .i64 a, .int .i64 b, .string s, .string t] := Blk.new _ _ _
  have HOP := hide hop0
  have k1 : ¬ 20 < kind := by omega
  have k2 : kind < 10 := by omega
  clear h hb0 hop0
  unfold OpS.cells
  go_enter Tryz.func108, Tryz.ntmps108
  go_wp2_with (go_at_call 146; go_loud (
     refine HO.out.mono ?_; rintro e w1 ⟨rfl, hb1⟩
     have hb := HB0.out.trans (hb1.mono HB0.out.size)
     obtain ⟨keepv, disksv, xs, ds, h⟩ := HW.out
     have h1 := h.below hb
     obtain ⟨A, c, rfl, _⟩ := ownN_form h1.disks
     have c1 : w1.cell? ⟨wb, 1, none⟩ = some (.slice A ds.length c) := cellOf h1.at_ 1 rfl
     have c0 : w1.cell? ⟨w.heap.size, 0, none⟩ = some (.int .i64 kind) := cellOf (HOP.out.below hb1 HOP.out.lt) 0 rfl
     have H1 := hide h1
     have HB := hide hb
     clear hb1 h h1 hb))
  all_goals (go_ret; exact ⟨rfl, ⟨_, _, _, _, H1.out.more⟩, HB.out.mono hB⟩)

set_option maxRecDepth 100000 in
set_option maxHeartbeats 4000000 in
theorem step_disk (h : WI w B N wb) (hg : Glob w) (hB0 : 0 < B) (hB : B ≤ w.heap.size) (hN : N ≤ 16384) (hok : o.ok) (hk : o.kind = 10 ∨ o.kind = 11) :
    Calls Tryz.prog 108 #[.pointer (some ⟨wb, 0, none⟩), .agg o.cells] w (OwnPost B N wb w true) := by
  obtain ⟨kind, x, y, a, b, s, t⟩ := o
  have okx : I64 x := hok.x
  simp only at hk
  have hb0 : Below w.heap.size w (w.alloc (.cells #[.int .i64 kind, .int .i64 x, .int .i64 y, .int .i64 a, .int .i64 b, .string s, .string t] 124)) := (Below.refl _ _).alloc (Nat.le_refl _) _
  have HO : Hid (Calls Tryz.prog 146 #[.pointer (some ⟨wb, 0, none⟩), .agg #[.int .i64 kind, .int .i64 x, .int .i64 y, .int .i64 a, .int .i64 b, .string s, .string t]] (w.alloc (.cells #[.int .i64 kind, .int .i64 x, .int .i64 y, .int .i64 a, .int .i64 b, .string s, .string t] 124)) (NoPost (w.alloc (.cells #[.int .i64 kind, .int .i64 x, .int .i64 y, .int .i64 a, .int .i64 b, .string s, .string t] 124)))) := hide (owner_false (o := ⟨kind, x, y, a, b, s, t⟩) (wb := wb) (.inr (show 9 < kind by omega)))
  have HB0 := hide hb0
  have HW := hide h
  have HG := hide hg
  have HK := hide hk
  have hop0 : Blk (w.alloc (.cells #[.int .i64 kind, .int .i64 x, .int .i64 y, .int .i64 a, .int .i64 b, .string s, .string t] 124)) w.heap.size 124 #[.int .i64 kind, .int .i64 x, .int .i64 y, .int .i64 a, .int .i64 b, .string s, .string t] := Blk.new _ _ _
  have HOP := hide hop0
  have k1 : ¬ 20 < kind := by omega
  have k2 : ¬ kind < 10 := by omega
  clear h hb0 hop0 hok hg hk
  unfold OpS.cells
  go_enter Tryz.func108, Tryz.ntmps108
  go_upto_region 4 with (first
    | (go_at_call 146; go_loud (
       refine HO.out.mono ?_; rintro e w1 ⟨rfl, hb1⟩
       have hb := HB0.out.trans (hb1.mono HB0.out.size)
       obtain ⟨keepv, disksv, xs, ds, h⟩ := HW.out
       have h1 := h.below hb
       obtain ⟨A, c, rfl, _⟩ := ownN_form h1.disks
       have c1 : w1.cell? ⟨wb, 1, none⟩ = some (.slice A ds.length c) := cellOf h1.at_ 1 rfl
       have hop1 := HOP.out.below hb1 HOP.out.lt
       have c0 : w1.cell? ⟨w.heap.size, 0, none⟩ = some (.int .i64 kind) := cellOf hop1 0 rfl
       have cx : w1.cell? ⟨w.heap.size, 1, none⟩ = some (.int .i64 x) := cellOf hop1 1 rfl
       have H1 := hide h1
       have HB := hide hb
       have HOP1 := hide hop1
       clear hb1 h h1 hb hop1)))
  have hdl := H1.out.dl
  have hlo := H1.out.lo
  by_cases hnil : ds.length = 0
  · have e0 : (ds.length : Int) = 0 := by omega
    go_wp2
    go_ret
    exact ⟨rfl, ⟨_, _, _, _, H1.out.more⟩, HB.out.mono hB⟩
  · have e0 : ¬ (ds.length : Int) = 0 := by omega
    have d1 : ((ds.length : Int) == 0) = false := by simpa using hnil
    have d2 : decide (20 < kind) = false := by simpa using k1
    have d3 : decide (kind < 10) = false := by simpa using k2
    have d4 : ((ds.length : Int) == 0 || decide (20 < kind) || decide (kind < 10)) = false := by rw [d1, d2, d3]; rfl
    go_upto_region 6 with fail
    have HP := hide (fun k => pick_fn x ds.length (w1.drewN k) okx (by omega) (by omega))
    have hklt := pickN_lt x ds.length (by omega)
    have HROW : Hid (∃ g, A = some ⟨g, 0, none⟩ ∧ ∀ j v, (ds.map dptr)[j]? = some v → w1.cell? ⟨g, j, none⟩ = some v) := by
      obtain ⟨ad, e, _, hc⟩ := (Reads.of_own H1.out.disks).2 (by omega)
      obtain ⟨g, o, i⟩ := ad
      obtain ⟨_, _, hv, _, _, hrow, _⟩ := ownN_form H1.out.disks
      injection hv with ea
      subst e
      obtain ⟨_, _, e2, _⟩ := hrow g rfl
      rw [← ea] at e2
      injection e2 with e2
      injection e2 with _ eo ei
      subst eo ei
      exact ⟨g, rfl, fun j v hv => by have := hc j v hv; rwa [Addr.add_lit, Nat.zero_add] at this⟩
    obtain ⟨g, rfl, hcell⟩ := HROW.out
    obtain ⟨k, hk⟩ : ∃ k, k = pickN x ds.length := ⟨_, rfl⟩
    rw [← hk] at HP hklt
    have hk1 : (k : Int) < (ds.length : Int) := by omega
    have hk0 : (0 : Int) ≤ (k : Int) := by omega
    have hkc : w1.cell? ⟨g, k, none⟩ = some (dptr ds[k]) := hcell k _ (by simp [hklt])
    unfold dptr at hkc
    clear hk hcell HROW
    go_quiet (first | ((go_at_call 147; exact quiet_same (HP.out _))))
    have hmem : ds[k] ∈ ds := List.getElem_mem hklt
    obtain ⟨dd, hdd⟩ : ∃ dd, dd = ds[k] := ⟨_, rfl⟩
    rw [← hdd] at hmem ⊢
    obtain ⟨Wq, hWq⟩ : ∃ Wq, Wq = w1.drewN nq := ⟨_, rfl⟩
    rw [← hWq]
    have hqq : Below w1.heap.size w1 Wq := by rw [hWq]; exact below_drewN (Below.refl _ _) nq
    have hq := H1.out.below hqq
    have hbq : Below B w Wq := (HB.out.mono hB).trans (hqq.mono (Nat.le_trans hB HB.out.size))
    have hgq : Glob Wq := HG.out.only (fp := fun x => B ≤ x) ⟨hbq.os, hbq.tape, hbq.output, hbq.size, fun x hx hn => hbq.block x (by omega)⟩ (by omega)
    have o0 : Wq.cell? ⟨w.heap.size, 0, none⟩ = some (.int .i64 kind) := cellOf (HOP1.out.below hqq HOP1.out.lt) 0 rfl
    have HF := hide (step_format (hq.each dd hmem) hgq hB0 hN)
    have HN := hide (step_open (hq.each dd hmem) hgq hB0 hN)
    unfold dptr at HF HN
    have HQ := hide hq
    have HBQ := hide hbq
    have HM := hide hmem
    clear hq hbq hmem hqq hWq hdd hgq c0 cx hkc c1
    rcases HK.out with e | e
    · subst e
      go_wp2_with (go_at_call 148; refine HF.out.mono ?_; rintro e w' ⟨rfl, hd, ho⟩)
      go_ret
      exact ⟨rfl, ⟨_, _, _, _, HQ.out.turn HM.out ho hd⟩, HBQ.out.trans (Only.has_below (HQ.out.each dd HM.out) ho (Nat.le_trans hB HBQ.out.size))⟩
    · subst e
      go_wp2_with (go_at_call 149; refine HN.out.mono ?_; rintro e w' ⟨rfl, hd, ho⟩)
      go_ret
      exact ⟨rfl, ⟨_, _, _, _, HQ.out.turn HM.out ho hd⟩, HBQ.out.trans (Only.has_below (HQ.out.each dd HM.out) ho (Nat.le_trans hB HBQ.out.size))⟩
end
end Go.Proofs.YtemondlgcmpbbaaGreatDoor
