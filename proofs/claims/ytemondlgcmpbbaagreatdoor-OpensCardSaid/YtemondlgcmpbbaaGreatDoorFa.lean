/- Walks: disk.Format, on a disk that tells no error. -/
import Derived.Test.YtemondlgcmpbbaaGreatDoorVb
import Derived.Defers
import Derived.Recover
import Derived.Deep.DeepCutAuto
namespace Go.Proofs.YtemondlgcmpbbaaGreatDoor
open Go.RowKit

theorem catch_nil (s : ByteArray) (p : Value) (w : World) : Calls Tryz.prog 91 #[.nilIface, .string s, p] w fun e w' => e = .returned (.tuple #[]) ∧ w' = w := by
  go_enter Tryz.func91, Tryz.ntmps91
  go_wp2
  go_end0
  exact ⟨rfl, rfl⟩

theorem formatD (p : Addr) (w : World) : CallsD Tryz.prog 153 #[.pointer (some p)] .returning w fun e u' w' => u' = .returning ∧ (e = .returned (.tuple #[]) ∧ w' = w) := by
  refine callsD_of_wpS Tryz.func153 rfl fun c₀ cs hu => ?_
  apply wpS_region
  simp [wpOpsS, go_sem, recoverD, hu, Tryz.ntmps153]
  refine (catch_nil _ _ _).mono ?_
  rintro e w' ⟨rfl, rfl⟩
  cases c₀
  simp_all [bodyPostS, results, Tryz.results153]
theorem openD (p : Addr) (w : World) : CallsD Tryz.prog 142 #[.pointer (some p)] .returning w fun e u' w' => u' = .returning ∧ (e = .returned (.tuple #[]) ∧ w' = w) := by
  refine callsD_of_wpS Tryz.func142 rfl fun c₀ cs hu => ?_
  apply wpS_region
  simp [wpOpsS, go_sem, recoverD, hu, Tryz.ntmps142]
  refine (catch_nil _ _ _).mono ?_
  rintro e w' ⟨rfl, rfl⟩
  cases c₀
  simp_all [bodyPostS, results, Tryz.results142]

/-- The head that Format writes: where, and its number. -/
def nextHead : List Hd → Nat × Nat
  | [] => (0, 1)
  | h :: _ => (1 - h.slot, h.gen + 1)
/-- What lies on the disk behind Format. -/
def formatB (bytes : List UInt8) (cache : List (Nat × List UInt8)) (h : Nat × Nat) : List UInt8 := dset (dflush bytes cache) (h.1, pad 128 (headB h.2 0 0))

theorem headUp_slot (c : Nat → List UInt8) : ∀ k, ∀ h ∈ headUp c k, h.slot < k ∧ h.gen < 1073741824 ∧ 0 < h.gen
  | 0, h, hh => by cases hh
  | k + 1, h, hh => by
    rcases List.mem_append.1 hh with hh | hh
    · have := headUp_slot c k h hh
      exact ⟨by omega, this.2⟩
    · split at hh
      · rename_i hp
        rw [List.mem_singleton.1 hh]
        have h1 : pGen (c k) < 1073741824 := by
          unfold pOk at hp
          simp only [Bool.and_eq_true, decide_eq_true_eq] at hp
          exact hp.1.2
        have h2 : 0 < pGen (c k) := by
          unfold pOk at hp
          simp only [Bool.and_eq_true, decide_eq_true_eq] at hp
          exact hp.1.1.2
        exact ⟨Nat.lt_succ_self _, h1, h2⟩
      · cases hh
theorem headsN_mem (c : Nat → List UInt8) : ∀ h ∈ headsN c, h ∈ headUp c 2 := by
  intro h hh
  unfold headsN at hh
  generalize headUp c 2 = l at hh
  match l with
  | [] => exact hh
  | [_] => exact hh
  | [a, b] =>
    unfold newest at hh
    simp only at hh
    split at hh
    · simp only [List.mem_cons, List.not_mem_nil, or_false] at hh ⊢
      exact hh.symm
    · exact hh
  | _ :: _ :: _ :: _ => exact hh

set_option maxRecDepth 100000 in
set_option maxHeartbeats 2000000 in
theorem dformat_any (K b g base n : Nat) (cv : Value) (m : Nums) (bytes : List UInt8) (cache : List (Nat × List UInt8)) (w : World) (h : Dk w K b g base n cv m bytes cache) (hc : m.calm) (hn : 8 ≤ n) (hK : K + 5 < edge) :
    Calls Tryz.prog 109 #[.iface 23 (.pointer (some ⟨b, 0, none⟩))] w fun e w' => e = .returned .nilIface ∧ Dk w' (K + 5) b g base n (.slice none 0 0) (ticks m 2).tick.wrote.tick (formatB bytes cache (nextHead (headsN (dread bytes cache)))) [] ∧ Only (fun x => x = b ∨ x = g) w w' := by
  have hmf : ∀ (fn : Fn) (first cap : Array Value) (w : World), (Instr.makeFunc fn first cap).run Tryz.prog w = .ok (.func fn first cap) w := fun _ _ _ _ => rfl
  have H := hide h
  have HC := hide hc
  obtain ⟨hs, hhs⟩ : ∃ hs, hs = headsN (dread bytes cache) := ⟨_, rfl⟩
  have hmem : ∀ x ∈ hs, x.slot < 2 ∧ x.gen < 1073741824 ∧ 0 < x.gen := fun x hx => headUp_slot _ 2 x (headsN_mem _ x (hhs ▸ hx))
  have HHS := hide hhs
  have HMEM := hide hmem
  have H3 := hide (h.below ((((Below.refl _ _).alloc (Nat.le_refl _) (Obj.cells #[.nilIface] 31)).alloc (by simp) (Obj.cells #[.iface 23 (.pointer (some ⟨b, 0, none⟩))] 147)).alloc (by simp; omega) (Obj.cells #[.int .i64 0, .int .u32 1, .int .i64 0, .int .u32 0] 149)))
  have HR := hide (heads_up K b g base n cv m bytes cache _ H3.out hc hn (by omega))
  rw [← hhs] at HR
  unfold vol at HR
  clear h hc hhs hmem
  go_enter_defers Tryz.func109, Tryz.ntmps109
  go_wp2_with fail
  refine HR.out.mono ?_
  rintro e w1 ⟨v, rfl, hown, hd1, ho1⟩
  obtain ⟨A, c, rfl, hlc, hcm, hrow, hno⟩ := ownN_form hown
  have hz : w.heap.size + 1 + 1 + 1 ≤ w1.heap.size := by have := ho1.size; simpa only [World.size_alloc] using this
  have hbl : b < w.heap.size := H.out.at_.lt
  have e0 : Blk w1 w.heap.size 31 #[.nilIface] := ho1.blk (((Blk.new w _ _).alloc _).alloc _) (by omega)
  have e1 : Blk w1 (w.heap.size + 1) 147 #[.iface 23 (.pointer (some ⟨b, 0, none⟩))] := ho1.blk ((Blk.new2 w _ _ _).alloc _) (by omega)
  have e2 : Blk w1 (w.heap.size + 1 + 1) 149 #[.int .i64 0, .int .u32 1, .int .i64 0, .int .u32 0] := ho1.blk (by have := Blk.new2 (w.alloc (Obj.cells #[.nilIface] 31)) (Obj.cells #[.iface 23 (.pointer (some ⟨b, 0, none⟩))] 147) 149 #[.int .i64 0, .int .u32 1, .int .i64 0, .int .u32 0]; rwa [World.size_alloc] at this) (by omega)
  have hoW : Only (fun x => x = b) w w1 := Only.trans ((((Only.refl _ _).alloc _).alloc _).alloc _) ho1
  have HD1 := hide hd1
  have HO1 := hide hoW
  have HE0 := hide e0
  have HE1 := hide e1
  have HE2 := hide e2
  have HROW := hide hrow
  have HNO := hide hno
  have HOWN := hide hown
  clear hd1 ho1 hoW e0 e1 e2 hrow hno hown hmf
  go_upto_if 14 with fail
  go_cut [] from 15 to 25 (fun wx => Blk wx (w.heap.size + 1 + 1) 149 (headV (nextHead hs).1 (nextHead hs).2 0 0) ∧ Blk wx (w.heap.size + 1) 147 #[.iface 23 (.pointer (some ⟨b, 0, none⟩))] ∧ Blk wx w.heap.size 31 #[.nilIface] ∧ Dk wx (K + 2) b g base n cv (ticks m 2) bytes cache ∧ Only (fun x => x = b) w wx)
  case first =>
    cases hs with
    | nil =>
      go_wp2
      go_meet
      exact ⟨HE2.out, HE1.out, HE0.out, HD1.out, HO1.out⟩
    | cons h t =>
      obtain ⟨gl, cur, rfl, hcur, htk⟩ : ∃ gl cur, A = some ⟨gl, 0, none⟩ ∧ Blk w1 gl 149 cur ∧ cur.toList.take ((h :: t).length * 4) = hcells (h :: t) := by
        cases A with
        | none => have := (HNO.out rfl).1; simp at this
        | some a =>
          obtain ⟨_, _, e, cur, hb, _, ht⟩ := HROW.out a.block rfl
          exact ⟨a.block, cur, e, hb, ht⟩
      have cell : ∀ j v, (hcells (h :: t))[j]? = some v → w1.cell? ⟨gl, j, none⟩ = some v := fun j v hv => by
        rw [hcur.cell, ← Array.getElem?_toList]
        rw [← htk, List.getElem?_take] at hv
        split at hv
        · exact hv
        · cases hv
      have c0 : w1.cell? ⟨gl, 0, none⟩ = some (.int .i64 h.slot) := cell 0 _ rfl
      have c1 : w1.cell? ⟨gl, 1, none⟩ = some (.int .u32 h.gen) := cell 1 _ rfl
      have hm := HMEM.out h (by simp)
      have l0 : (0 : Int) < ((t.length : Int) + 1) := by omega
      have lb : decide (0 < (h :: t).length) = true := by simp
      have lb2 : 0 < (h :: t).length := by simp
      have q1 : IntKind.i64.wrap (1 - (h.slot : Int)) = ((1 - h.slot : Nat) : Int) := by rw [IntKind.wrap_i64]; have := hm.1; omega
      have q2 : IntKind.u32.wrap ((h.gen : Int) + 1) = ((h.gen + 1 : Nat) : Int) := by rw [IntKind.wrap_u32]; have := hm.2.1; omega
      have d0 := cellOf HE2.out 0 rfl
      have d1 := cellOf HE2.out 1 rfl
      have d2 := cellOf HE2.out 2 rfl
      have d3 := cellOf HE2.out 3 rfl
      have f0 : w1.frozen? ⟨w.heap.size + 1 + 1, 0, none⟩ = false := HE2.out.frozen 0
      have f1 : w1.frozen? ⟨w.heap.size + 1 + 1, 1, none⟩ = false := HE2.out.frozen 1
      have f2 : w1.frozen? ⟨w.heap.size + 1 + 1, 2, none⟩ = false := HE2.out.frozen 2
      have f3 : w1.frozen? ⟨w.heap.size + 1 + 1, 3, none⟩ = false := HE2.out.frozen 3
      have hgll : gl < w1.heap.size := hcur.lt
      have hgln : gl ≠ w.heap.size + 1 + 1 := by
        have := (ownN_lt HOWN.out (g := gl) rfl).1
        simp only [World.size_alloc] at this
        omega
      clear cell hcur htk
      go_wp2
      refine wp_region_noPanic ?_
      refine wp_region_held_drew (S := fun w' => w'.cell? ⟨gl, 0, none⟩ = some (.int .i64 h.slot) ∧ w'.cell? ⟨gl, 1, none⟩ = some (.int .u32 h.gen)) (by kernel_rfl) ⟨c0, c1⟩ ?_
      intro hS0
      refine wpAnyH_takeD (i := 0) (v := (.slice (some ⟨gl, 0, none⟩) (h :: t).length c)) (some 15) rfl rfl (by kernel_rfl) (by kernel_rfl) (by kernel_rfl) (fun _ _ _ h => h) (Or.inl ⟨rfl, fun w' hSw => by go_simp⟩) hS0 ?_
      simp only [Act.put, List.setIfInBounds_toArray, List.set_cons_zero, List.set_cons_succ]
      refine wpAnyH_takeD (i := 1) (v := (.pointer (some ⟨gl, 0, none⟩))) (some 16) rfl rfl (by kernel_rfl) (by kernel_rfl) (by kernel_rfl) (fun _ _ _ h => h) (Or.inl ⟨rfl, fun w' hSw => by clear hSw; go_simp⟩) hS0 ?_
      simp only [Act.put, List.setIfInBounds_toArray, List.set_cons_zero, List.set_cons_succ]
      refine wpAnyH_takeD (i := 2) (v := (.pointer (some ⟨gl, 0, none⟩))) (some 17) rfl rfl (by kernel_rfl) (by kernel_rfl) (by kernel_rfl) (fun _ _ _ h => h) (Or.inl ⟨rfl, fun w' hSw => by go_simp⟩) hS0 ?_
      simp only [Act.put, List.setIfInBounds_toArray, List.set_cons_zero, List.set_cons_succ]
      refine wpAnyH_takeD (i := 3) (v := (.int .i64 h.slot)) (some 18) rfl rfl (by kernel_rfl) (by kernel_rfl) (by kernel_rfl) (fun _ _ _ h => h) (Or.inl ⟨rfl, fun w' hSw => by have s1 := hSw.1; clear hSw; go_simp⟩) hS0 ?_
      simp only [Act.put, List.setIfInBounds_toArray, List.set_cons_zero, List.set_cons_succ]
      refine wpAnyH_takeD (i := 4) (v := (.int .i64 (1 - h.slot : Nat))) (some 19) rfl rfl (by kernel_rfl) (by kernel_rfl) (by kernel_rfl) (fun _ _ _ h => h) (Or.inl ⟨rfl, fun w' hSw => by clear hSw; go_simp⟩) hS0 ?_
      simp only [Act.put, List.setIfInBounds_toArray, List.set_cons_zero, List.set_cons_succ]
      refine wpAnyH_takeD (i := 5) (v := (.slice (some ⟨gl, 0, none⟩) (h :: t).length c)) (some 20) rfl rfl (by kernel_rfl) (by kernel_rfl) (by kernel_rfl) (fun _ _ _ h => h) (Or.inl ⟨rfl, fun w' hSw => by go_simp⟩) hS0 ?_
      simp only [Act.put, List.setIfInBounds_toArray, List.set_cons_zero, List.set_cons_succ]
      refine wpAnyH_takeD (i := 6) (v := (.pointer (some ⟨gl, 0, none⟩))) (some 21) rfl rfl (by kernel_rfl) (by kernel_rfl) (by kernel_rfl) (fun _ _ _ h => h) (Or.inl ⟨rfl, fun w' hSw => by clear hSw; go_simp⟩) hS0 ?_
      simp only [Act.put, List.setIfInBounds_toArray, List.set_cons_zero, List.set_cons_succ]
      refine wpAnyH_takeD (i := 7) (v := (.pointer (some ⟨gl, 1, none⟩))) (some 22) rfl rfl (by kernel_rfl) (by kernel_rfl) (by kernel_rfl) (fun _ _ _ h => h) (Or.inl ⟨rfl, fun w' hSw => by go_simp⟩) hS0 ?_
      simp only [Act.put, List.setIfInBounds_toArray, List.set_cons_zero, List.set_cons_succ]
      refine wpAnyH_takeD (i := 8) (v := (.int .u32 h.gen)) (some 23) rfl rfl (by kernel_rfl) (by kernel_rfl) (by kernel_rfl) (fun _ _ _ h => h) (Or.inl ⟨rfl, fun w' hSw => by have s1 := hSw.2; clear hSw; go_simp⟩) hS0 ?_
      simp only [Act.put, List.setIfInBounds_toArray, List.set_cons_zero, List.set_cons_succ]
      refine wpAnyH_takeD (i := 9) (v := (.int .u32 (h.gen + 1 : Nat))) (some 24) rfl rfl (by kernel_rfl) (by kernel_rfl) (by kernel_rfl) (fun _ _ _ h => h) (Or.inl ⟨rfl, fun w' hSw => by clear hSw; go_simp⟩) hS0 ?_
      simp only [Act.put, List.setIfInBounds_toArray, List.set_cons_zero, List.set_cons_succ]
      refine wpAnyH_takeD (i := 10) (v := (.agg (headV (1 - h.slot) (h.gen + 1) 0 0))) (some 25) rfl rfl (by kernel_rfl) (by kernel_rfl) (by kernel_rfl) (fun _ _ _ h => h) (Or.inl ⟨rfl, fun w' hSw => by clear hSw; go_simp; rfl⟩) hS0 ?_
      simp only [Act.put, List.setIfInBounds_toArray, List.set_cons_zero, List.set_cons_succ]
      refine wpAnyH_one (i := 11) (by kernel_rfl) rfl rfl ?_
      refine wp_store_sz 149 (.tmp 4) (.tmp 25) rfl (w.heap.size + 1 + 1) 0 (headV (1 - h.slot) (h.gen + 1) 0 0).toList rfl rfl 149 (headV 0 1 0 0).toList HE2.out.drew (Nat.le_refl _) size_head (headV_one _ _ _ _) ?_
      intro w2 hb2 hg2 hs2
      have hO2 : Only (fun x => x = w.heap.size + 1 + 1) w1 w2 := Only.grown ((Only.refl _ _).drew) hg2 fun g' e => .inl (by injection e with e; exact e.symm)
      have c02 := (hO2.cell (p := ⟨gl, 0, none⟩) hgll (by simpa using hgln)).trans c0
      have c12 := (hO2.cell (p := ⟨gl, 1, none⟩) hgll (by simpa using hgln)).trans c1
      refine ⟨⟨c02, c12⟩, ?_⟩
      change wpAnyH _ _ _ _ _ _ _ (Act.put _ none undef) _
      simp only [Act.put]
      refine wpAnyH_done (by kernel_rfl) ?_ _
      refine NoPanic.normal ?_
      have hb2' : Blk w2 (w.heap.size + 1 + 1) 149 (headV (1 - h.slot) (h.gen + 1) 0 0) := by rw [spl_all (L := (headV 0 1 0 0).toList) (cs := (headV (1 - h.slot) (h.gen + 1) 0 0).toList) rfl] at hb2; exact hb2
      clear hb2 hg2 hs2 c02 c12 c0 c1 d0 d1 d2 d3 f0 f1 f2 f3
      go_wp2
      go_meet
      refine ⟨hb2', HE1.out.only hO2 (by omega), HE0.out.only hO2 (by omega), HD1.out.only hO2 ?_, Only.trans' HO1.out hO2 ?_⟩
      · intro x hx e
        have := H.out.lt hx
        omega
      · intro x hx e
        omega
  case rest =>
    obtain ⟨f2, f1, f0, hd2, ho2⟩ := hcut
    have hz2 : w.heap.size + 1 + 1 < wc.heap.size := f2.lt
    have hgl : g < w.heap.size := H.out.blk.lt
    have v0 : wc.cell? ⟨w.heap.size + 1, 0, none⟩ = some (.iface 23 (.pointer (some ⟨b, 0, none⟩))) := cellOf f1 0 rfl
    have HNG : Hid ((nextHead hs).2 < 4294967296) := by
      cases hs with
      | nil => exact (by decide : 1 < 4294967296)
      | cons h t => have := (HMEM.out h (by simp)).2.1; exact (by omega : h.gen + 1 < 4294967296)
    have HNS : Hid ((nextHead hs).1 < n) := by
      cases hs with
      | nil => exact (by omega : 0 < n)
      | cons h t => exact (by omega : 1 - h.slot < n)
    have HV := hide (vflush_any (K + 2) b g base n cv (ticks m 2) bytes cache wc hd2 (ticks_calm HC.out 2).bad (by omega))
    unfold vol at HV
    have HF2 := hide f2
    have HF1 := hide f1
    have HF0 := hide f0
    have HO2 := hide ho2
    clear f2 f1 f0 hd2 ho2
    go_wp2_with fail
    refine HV.out.mono ?_
    rintro e w3 ⟨rfl, hd3, ho3⟩
    have k2 := HF2.out.only ho3 (fun e => by omega)
    have k1 := HF1.out.only ho3 (fun e => by omega)
    have k0 := HF0.out.only ho3 (fun e => by omega)
    have HS3 : Hid (w3.drew.cell? ⟨w.heap.size + 1, 0, none⟩ = some (.iface 23 (.pointer (some ⟨b, 0, none⟩))) ∧ w3.drew.cell? ⟨w.heap.size + 1 + 1, 0, none⟩ = some (.int .i64 (nextHead hs).1) ∧ w3.drew.cell? ⟨w.heap.size + 1 + 1, 1, none⟩ = some (.int .u32 (nextHead hs).2) ∧ w3.drew.cell? ⟨w.heap.size + 1 + 1, 2, none⟩ = some (.int .i64 0) ∧ w3.drew.cell? ⟨w.heap.size + 1 + 1, 3, none⟩ = some (.int .u32 0)) := ⟨cellOf k1 0 rfl, cellOf k2 0 rfl, cellOf k2 1 rfl, cellOf k2 2 rfl, cellOf k2 3 rfl⟩
    have HS4 : Hid (∀ w4, Below w3.drew.heap.size w3.drew w4 → w4.cell? ⟨w.heap.size + 1, 0, none⟩ = some (.iface 23 (.pointer (some ⟨b, 0, none⟩))) ∧ w4.cell? ⟨w.heap.size + 1 + 1, 0, none⟩ = some (.int .i64 (nextHead hs).1) ∧ w4.cell? ⟨w.heap.size + 1 + 1, 1, none⟩ = some (.int .u32 (nextHead hs).2) ∧ w4.cell? ⟨w.heap.size + 1 + 1, 2, none⟩ = some (.int .i64 0) ∧ w4.cell? ⟨w.heap.size + 1 + 1, 3, none⟩ = some (.int .u32 0)) := fun w4 hb =>
      have j2 := k2.drew.below hb k2.lt
      have j1 := k1.drew.below hb k1.lt
      ⟨cellOf j1 0 rfl, cellOf j2 0 rfl, cellOf j2 1 rfl, cellOf j2 2 rfl, cellOf j2 3 rfl⟩
    have HS5 : Hid (∀ w4 w5, Below w3.drew.heap.size w3.drew w4 → Only (dfp b g (.slice none 0 0)) w4 w5 → w5.cell? ⟨w.heap.size + 1, 0, none⟩ = some (.iface 23 (.pointer (some ⟨b, 0, none⟩))) ∧ w5.cell? ⟨w.heap.size + 1 + 1, 0, none⟩ = some (.int .i64 (nextHead hs).1) ∧ w5.cell? ⟨w.heap.size + 1 + 1, 1, none⟩ = some (.int .u32 (nextHead hs).2) ∧ w5.cell? ⟨w.heap.size + 1 + 1, 2, none⟩ = some (.int .i64 0) ∧ w5.cell? ⟨w.heap.size + 1 + 1, 3, none⟩ = some (.int .u32 0)) := fun w4 w5 hb ho =>
      have hnd : ∀ x, w.heap.size ≤ x → ¬ dfp b g (.slice none 0 0) x := fun x hx h => by
        rcases h with h | h | h
        · omega
        · omega
        · simp [Value.ownBlock] at h
      have j2 := (k2.drew.below hb k2.lt).only ho (hnd _ (by omega))
      have j1 := (k1.drew.below hb k1.lt).only ho (hnd _ (by omega))
      ⟨cellOf j1 0 rfl, cellOf j2 0 rfl, cellOf j2 1 rfl, cellOf j2 2 rfl, cellOf j2 3 rfl⟩
    have HD3 := hide hd3.drew
    have HO3 := hide ho3
    have HK2 := hide k2
    have HK1 := hide k1
    have HK0 := hide k0
    clear hd3 ho3 k2 k1 k0 v0
    go_wp2_with fail
    refine wp_region_noPanic ?_
    refine wp_region_held_drew (S := fun w' => w'.cell? ⟨w.heap.size + 1, 0, none⟩ = some (.iface 23 (.pointer (some ⟨b, 0, none⟩))) ∧ w'.cell? ⟨w.heap.size + 1 + 1, 0, none⟩ = some (.int .i64 (nextHead hs).1) ∧ w'.cell? ⟨w.heap.size + 1 + 1, 1, none⟩ = some (.int .u32 (nextHead hs).2) ∧ w'.cell? ⟨w.heap.size + 1 + 1, 2, none⟩ = some (.int .i64 0) ∧ w'.cell? ⟨w.heap.size + 1 + 1, 3, none⟩ = some (.int .u32 0)) (by kernel_rfl) HS3.out ?_
    intro hS0
    refine wpAnyH_takeD (i := 0) (v := (.agg #[.iface 23 (.pointer (some ⟨b, 0, none⟩))])) (some 28) rfl rfl (by kernel_rfl) (by kernel_rfl) (by kernel_rfl) (fun _ _ _ h => h) (Or.inl ⟨rfl, fun w' hSw => by have s1 := hSw.1; clear hSw; go_simp⟩) hS0 ?_
    simp only [Act.put, List.setIfInBounds_toArray, List.set_cons_zero, List.set_cons_succ]
    refine wpAnyH_takeD (i := 1) (v := (.pointer (some ⟨w.heap.size + 1 + 1, 0, none⟩))) (some 29) rfl rfl (by kernel_rfl) (by kernel_rfl) (by kernel_rfl) (fun _ _ _ h => h) (Or.inl ⟨rfl, fun w' hSw => by go_simp⟩) hS0 ?_
    simp only [Act.put, List.setIfInBounds_toArray, List.set_cons_zero, List.set_cons_succ]
    refine wpAnyH_takeD (i := 2) (v := (.int .i64 (nextHead hs).1)) (some 30) rfl rfl (by kernel_rfl) (by kernel_rfl) (by kernel_rfl) (fun _ _ _ h => h) (Or.inl ⟨rfl, fun w' hSw => by have s1 := hSw.2.1; clear hSw; go_simp⟩) hS0 ?_
    simp only [Act.put, List.setIfInBounds_toArray, List.set_cons_zero, List.set_cons_succ]
    refine wpAnyH_takeD (i := 3) (v := (.agg #[.int .i64 (nextHead hs).1, .int .u32 (nextHead hs).2, .int .i64 0, .int .u32 0])) (some 31) rfl rfl (by kernel_rfl) (by kernel_rfl) (by kernel_rfl) (fun _ _ _ h => h) (Or.inl ⟨rfl, fun w' hSw => by obtain ⟨_, s1, s2, s3, s4⟩ := hSw; go_simp⟩) hS0 ?_
    simp only [Act.put, List.setIfInBounds_toArray, List.set_cons_zero, List.set_cons_succ]
    refine wpAnyH_callE (i := 4) (f := 95) (some 32) (by kernel_rfl) rfl rfl rfl (by first | (go_simp; done) | (go_simp; rfl)) (headBytes_any (nextHead hs).1 (nextHead hs).2 0 0 _ HNG.out (by omega) (by omega)) ?_
    rintro _ w4 ⟨g4, rfl, hb4, hz4, hbel4⟩
    refine ⟨(.slice (some ⟨g4, 0, none⟩) 32 32), rfl, HS4.out _ hbel4, ?_⟩
    simp only [Act.put, List.setIfInBounds_toArray, List.set_cons_zero, List.set_cons_succ]
    refine wpAnyH_callE (i := 5) (f := 92) (some 33) (by kernel_rfl) rfl rfl rfl (by first | (go_simp; done) | (go_simp; rfl)) (vwrite_any (K + 3) b g base n (nextHead hs).1 32 32 (some ⟨g4, 0, none⟩) (.slice none 0 0) (ticks m 2).tick (dflush bytes cache) (headB (nextHead hs).2 0 0) [] w4 (HD3.out.below hbel4) (ticks_calm HC.out 3).bad HNS.out (by omega) (SlU.whole hb4 rfl (by omega)) (by omega) (by simp)) ?_
    rintro _ w5 ⟨cv5, rfl, hd5, ho5, hf5⟩
    refine ⟨(.tuple #[]), rfl, HS5.out _ _ hbel4 ho5, ?_⟩
    simp only [Act.put, List.setIfInBounds_toArray, List.set_cons_zero, List.set_cons_succ]
    refine wpAnyH_done (by kernel_rfl) ?_ _
    refine NoPanic.normal ?_
    have hdf : dfp b g cv5 = dfp b g cv5 := rfl
    have HV5 := hide (vflush_any (K + 4) b g base n cv5 (ticks m 2).tick.wrote (dflush bytes cache) _ w5 hd5 (ticks_calm HC.out 3).wrote.bad (by omega))
    unfold vol at HV5
    have hnd : ∀ x, w.heap.size ≤ x → ¬ dfp b g (.slice none 0 0) x := fun x hx h => by
      rcases h with h | h | h
      · omega
      · omega
      · simp [Value.ownBlock] at h
    have hz3 : w3.heap.size ≤ w4.heap.size := hbel4.size
    have j1 := (HK1.out.drew.below hbel4 HK1.out.lt).only ho5 (hnd _ (by omega))
    have j0 := (HK0.out.drew.below hbel4 HK0.out.lt).only ho5 (hnd _ (by omega))
    have v5 : w5.cell? ⟨w.heap.size + 1, 0, none⟩ = some (.iface 23 (.pointer (some ⟨b, 0, none⟩))) := cellOf j1 0 rfl
    have HJ0 := hide j0
    have HO5 := hide ho5
    have HB4' := hide hbel4
    clear hdf hd5 hf5 hb4 hz4 j1 j0 ho5 hnd hbel4 hS0
    go_wp2_with fail
    refine HV5.out.mono ?_
    rintro e w6 ⟨rfl, hd6, ho6⟩
    have j6 := HJ0.out.only ho6 (fun e => by omega)
    have HD6 := hide hd6
    have HO6 := hide ho6
    have m0 := cellOf j6 0 rfl
    have n0 : w6.frozen? ⟨w.heap.size, 0, none⟩ = false := j6.frozen 0
    have HJ6 := hide j6
    clear hd6 ho6 j6 v5
    go_wp2
    refine leaves_cons (f := 153) (args := #[.pointer (some ⟨w.heap.size, 0, none⟩)]) (by simp) (by simp [go_sem]) ?_
    refine (formatD ⟨w.heap.size, 0, none⟩ _).mono ?_
    rintro e u' w7 ⟨rfl, rfl, rfl⟩
    have m7 := cellOf (HJ6.out.set_ 0 .nilIface) 0 rfl
    have o1 : Only (fun x => x = b ∨ x = g) w wc := HO2.out.mono fun _ _ h => .inl h
    have o2 := (((o1.trans HO3.out).drew).below HB4'.out)
    have o3 := o2.trans (HO5.out.mono fun x _ h => by
      rcases h with h | h | h
      · exact .inl h
      · exact .inr h
      · simp [Value.ownBlock] at h)
    have o4 := (o3.trans HO6.out).setCell (p := ⟨w.heap.size, 0, none⟩) (.inr (Nat.le_refl _)) .nilIface
    refine ⟨.nilIface, by simp [results, Tryz.results109, go_sem, m7], rfl, ?_, o4⟩
    have hlt : ∀ x, dfp b g (.slice none 0 0) x → ¬ (fun x => x = w.heap.size) x := fun x hx e => by
      have := H.out.lt (x := x) (by
        rcases hx with h | h | h
        · exact .inl h
        · exact .inr (.inl h)
        · simp [Value.ownBlock] at h)
      have e : x = w.heap.size := e
      omega
    have := HD6.out.only (Only.set1 w6 w.heap.size 0 .nilIface) hlt
    rw [← HHS.out]
    exact this
end Go.Proofs.YtemondlgcmpbbaaGreatDoor
