/- Oa Pl Ap Pk As: merged. -/
import Derived.Test.YtemondlgcmpbbaaGreatDoorMC05
import Derived.Laws.MakeOwn
import Derived.LaidEql
import Derived.Stop.Asserts
import Derived.RowKitTokens
/- Walks: disk.Open, where no head is there, or the newest tree is empty. -/
namespace Go.Proofs.YtemondlgcmpbbaaGreatDoor
open Go.RowKit

/-- An error of one number, of an operation. -/
def FaultAt (w : World) (f : Nat) (s : ByteArray) (e : Nat) : Prop := Blk w f 130 #[.string s, .iface 44 (.int .i64 e)]
def faultV (f : Nat) : Value := .iface 128 (.pointer (some ⟨f, 0, none⟩))
def sOpen : ByteArray := ⟨#[111, 112, 101, 110]⟩

theorem size_tree : (Tryz.prog.info? 88).map (·.size) = some [Value.pointer none, .int .i64 0].length := by kernel_rfl
theorem two_cells : ∀ v ∈ [Value.pointer none, .int .i64 0], v.oneCell' = true := by intro v hv; simp at hv; rcases hv with rfl | rfl <;> rfl

set_option maxRecDepth 100000 in
set_option maxHeartbeats 2000000 in
theorem dopen_none (K b g base n : Nat) (cv : Value) (m : Nums) (bytes : List UInt8) (cache : List (Nat × List UInt8)) (w : World) (h : Dk w K b g base n cv m bytes cache) (hc : m.calm) (hn : 8 ≤ n) (hK : K + 5 < edge) (hh : headsN (dread bytes cache) = []) :
    Calls Tryz.prog 104 #[.iface 23 (.pointer (some ⟨b, 0, none⟩))] w fun e w' => ∃ f, e = .returned (.tuple #[.pointer none, .agg #[.pointer none, .int .i64 0], faultV f]) ∧ FaultAt w' f sOpen 9 ∧ w.heap.size ≤ f ∧ Dk w' (K + 2) b g base n cv (ticks m 2) bytes cache ∧ Only (fun x => x = b) w w' := by
  have hmf : ∀ (fn : Fn) (first cap : Array Value) (w : World), (Instr.makeFunc fn first cap).run Tryz.prog w = .ok (.func fn first cap) w := fun _ _ _ _ => rfl
  have H := hide h
  have H3 := hide (h.below ((((Below.refl _ _).alloc (Nat.le_refl _) (Obj.cells #[.pointer none, .int .i64 0] 88)).alloc (by simp) (Obj.cells #[.nilIface] 31)).alloc (by simp; omega) (Obj.cells #[.iface 23 (.pointer (some ⟨b, 0, none⟩))] 147)))
  have HR := hide (heads_up K b g base n cv m bytes cache _ H3.out hc hn (by omega))
  rw [hh] at HR
  unfold vol at HR
  clear h hc hh
  go_enter_defers Tryz.func104, Tryz.ntmps104
  go_wp2_with fail
  refine HR.out.mono ?_
  rintro e w1 ⟨v, rfl, hown, hd1, ho1⟩
  obtain ⟨A, c, rfl, hlc, hcm, hrow, hno⟩ := ownN_form hown
  have hz : w.heap.size + 1 + 1 + 1 ≤ w1.heap.size := by have := ho1.size; simpa only [World.size_alloc] using this
  have hbl : b < w.heap.size := H.out.at_.lt
  have e0 : Blk w1 w.heap.size 88 #[.pointer none, .int .i64 0] := ho1.blk (((Blk.new w _ _).alloc _).alloc _) (by omega)
  have e1 : Blk w1 (w.heap.size + 1) 31 #[.nilIface] := ho1.blk ((Blk.new2 w _ _ _).alloc _) (by omega)
  have hoW : Only (fun x => x = b) w w1 := Only.trans ((((Only.refl _ _).alloc _).alloc _).alloc _) ho1
  have c0 := cellOf e0 0 rfl
  have c1 := cellOf e0 1 rfl
  have c2 := cellOf e1 0 rfl
  have f0 : w1.frozen? ⟨w.heap.size, 0, none⟩ = false := e0.frozen 0
  have f1 : w1.frozen? ⟨w.heap.size, 1, none⟩ = false := e0.frozen 1
  have f2 : w1.frozen? ⟨w.heap.size + 1, 0, none⟩ = false := e1.frozen 0
  have c0' := fun o => cellA o c0
  have c1' := fun o => cellA o c1
  have c2' := fun o => cellA o c2
  have f0' : ∀ o, (w1.alloc o).frozen? ⟨w.heap.size, 0, none⟩ = false := fun o => (e0.alloc o).frozen 0
  have f1' : ∀ o, (w1.alloc o).frozen? ⟨w.heap.size, 1, none⟩ = false := fun o => (e0.alloc o).frozen 1
  have f2' : ∀ o, (w1.alloc o).frozen? ⟨w.heap.size + 1, 0, none⟩ = false := fun o => (e1.alloc o).frozen 0
  have HD1 := hide hd1
  have HO1 := hide hoW
  have HE0 := hide e0
  have HE1 := hide e1
  clear hd1 ho1 hoW e0 e1 hrow hno hown hmf
  go_wp2
  refine wp_loop_rounds 1 ?_
  rw [rounds_succ]
  go_wp2
  refine leaves_cons (f := 142) (args := #[.pointer (some ⟨w.heap.size + 1, 0, none⟩)]) (by simp) (by simp [go_sem]) ?_
  refine (openD ⟨w.heap.size + 1, 0, none⟩ _).mono ?_
  rintro e u' w7 ⟨rfl, rfl, rfl⟩
  have k0 := ((HE0.out.alloc (.cells #[.string sOpen, .iface 44 (.int .i64 9)] 130)).set_ 0 (.pointer none)).set_ 1 (.int .i64 0)
  have k1 := (((HE1.out.alloc (.cells #[.string sOpen, .iface 44 (.int .i64 9)] 130)).only (Only.set1 _ w.heap.size 0 (.pointer none)) (by simp)).only (Only.set1 _ w.heap.size 1 (.int .i64 0)) (by simp)).set_ 0 (faultV w1.heap.size)
  have k0 := k0.only (Only.set1 _ (w.heap.size + 1) 0 (faultV w1.heap.size)) (by simp)
  have r0 := cellOf k0 0 rfl
  have r1 := cellOf k0 1 rfl
  have r2 := cellOf k1 0 rfl
  simp only [faultV, sOpen] at r0 r1 r2
  refine ⟨.tuple #[.pointer none, .agg #[.pointer none, .int .i64 0], faultV w1.heap.size], by simp [results, Tryz.results104, go_sem, r0, r1, r2, faultV], ?_⟩
  have kF : Blk (w1.alloc (.cells #[.string sOpen, .iface 44 (.int .i64 9)] 130)) w1.heap.size 130 #[.string sOpen, .iface 44 (.int .i64 9)] := Blk.new ..
  have p1 := (kF.only (Only.set1 _ w.heap.size 0 (.pointer none)) (by omega)).only (Only.set1 _ w.heap.size 1 (.int .i64 0)) (by omega)
  have p2 := p1.only (Only.set1 _ (w.heap.size + 1) 0 (faultV w1.heap.size)) (by omega)
  have o1 := HO1.out.alloc (.cells #[.string sOpen, .iface 44 (.int .i64 9)] 130)
  have o2 := ((o1.setCell (p := ⟨w.heap.size, 0, none⟩) (.inr (Nat.le_refl _)) (.pointer none)).setCell (p := ⟨w.heap.size, 1, none⟩) (.inr (Nat.le_refl _)) (.int .i64 0)).setCell (p := ⟨w.heap.size + 1, 0, none⟩) (.inr (by simp)) (faultV w1.heap.size)
  refine ⟨w1.heap.size, rfl, p2, by omega, ?_, o2⟩
  have d1 := HD1.out.below ((Below.refl _ _).alloc (Nat.le_refl _) (.cells #[.string sOpen, .iface 44 (.int .i64 9)] 130))
  have hlt : ∀ x, dfp b g cv x → x < w.heap.size := fun x hx => H.out.lt hx
  have d2 := (d1.only (Only.set1 _ w.heap.size 0 (.pointer none)) fun x hx e => by have := hlt x hx; omega).only (Only.set1 _ w.heap.size 1 (.int .i64 0)) fun x hx e => by have := hlt x hx; omega
  exact d2.only (Only.set1 _ (w.heap.size + 1) 0 (faultV w1.heap.size)) fun x hx e => by have := hlt x hx; omega

set_option maxRecDepth 100000 in
set_option maxHeartbeats 2000000 in
theorem dopen_zero (K b g base n : Nat) (m : Nums) (bytes : List UInt8) (cache : List (Nat × List UInt8)) (cv : Value) (w : World) (h : Dk w K b g base n cv m bytes cache) (hc : m.calm) (hn : 8 ≤ n) (hK : K + 5 < edge) (hd : Hd) (tl : List Hd) (hh : headsN (dread bytes cache) = hd :: tl) (hz0 : hd.blk = 0) :
    Calls Tryz.prog 104 #[.iface 23 (.pointer (some ⟨b, 0, none⟩))] w fun e w' => ∃ f, e = .returned (.tuple #[.pointer (some ⟨f, 0, none⟩), .agg #[.pointer none, .int .i64 0], .nilIface]) ∧ Blk w' f 151 (#[.iface 23 (.pointer (some ⟨b, 0, none⟩))] ++ hd.cells) ∧ w.heap.size ≤ f ∧ Dk w' (K + 3) b g base n (.slice none 0 0) (ticks m 3) (dflush bytes cache) [] ∧ Only (fun x => x = b ∨ x = g) w w' := by
  have hmf : ∀ (fn : Fn) (first cap : Array Value) (w : World), (Instr.makeFunc fn first cap).run Tryz.prog w = .ok (.func fn first cap) w := fun _ _ _ _ => rfl
  have hmm := @run_makeMap Tryz.prog
  have H := hide h
  have HC := hide hc
  have hmem : hd.slot < 2 ∧ hd.gen < 1073741824 ∧ 0 < hd.gen := headUp_slot _ 2 hd (headsN_mem _ hd (hh ▸ List.mem_cons_self ..))
  have HMEM := hide hmem
  have H3 := hide (h.below ((((Below.refl _ _).alloc (Nat.le_refl _) (Obj.cells #[.pointer none, .int .i64 0] 88)).alloc (by simp) (Obj.cells #[.nilIface] 31)).alloc (by simp; omega) (Obj.cells #[.iface 23 (.pointer (some ⟨b, 0, none⟩))] 147)))
  have HR := hide (heads_up K b g base n cv m bytes cache _ H3.out hc hn (by omega))
  rw [hh] at HR
  unfold vol at HR
  clear h hc hh hmem
  go_enter_defers Tryz.func104, Tryz.ntmps104
  go_wp2_with fail
  refine HR.out.mono ?_
  rintro e w1 ⟨v, rfl, hown, hd1, ho1⟩
  obtain ⟨A, c, rfl, hlc, hcm, hrow, hno⟩ := ownN_form hown
  have hz : w.heap.size + 1 + 1 + 1 ≤ w1.heap.size := by have := ho1.size; simpa only [World.size_alloc] using this
  have hbl : b < w.heap.size := H.out.at_.lt
  have e0 : Blk w1 w.heap.size 88 #[.pointer none, .int .i64 0] := ho1.blk (((Blk.new w _ _).alloc _).alloc _) (by omega)
  have e1 : Blk w1 (w.heap.size + 1) 31 #[.nilIface] := ho1.blk ((Blk.new2 w _ _ _).alloc _) (by omega)
  have e2 : Blk w1 (w.heap.size + 1 + 1) 147 #[.iface 23 (.pointer (some ⟨b, 0, none⟩))] := ho1.blk (by have := Blk.new2 (w.alloc (Obj.cells #[.pointer none, .int .i64 0] 88)) (Obj.cells #[.nilIface] 31) 147 #[.iface 23 (.pointer (some ⟨b, 0, none⟩))]; rwa [World.size_alloc] at this) (by omega)
  have hoW : Only (fun x => x = b) w w1 := Only.trans ((((Only.refl _ _).alloc _).alloc _).alloc _) ho1
  obtain ⟨gl, cur, rfl, hcur, htk⟩ : ∃ gl cur, A = some ⟨gl, 0, none⟩ ∧ Blk w1 gl 149 cur ∧ cur.toList.take ((hd :: tl).length * 4) = hcells (hd :: tl) := by
    cases A with
    | none => have := (hno rfl).1; simp at this
    | some a =>
      obtain ⟨_, _, e, cur, hb, _, ht⟩ := hrow a.block rfl
      exact ⟨a.block, cur, e, hb, ht⟩
  have cell : ∀ j v, (hcells (hd :: tl))[j]? = some v → w1.cell? ⟨gl, j, none⟩ = some v := fun j v hv => by
    rw [hcur.cell, ← Array.getElem?_toList]
    rw [← htk, List.getElem?_take] at hv
    split at hv
    · exact hv
    · cases hv
  have c0 : w1.cell? ⟨gl, 0, none⟩ = some (.int .i64 hd.slot) := cell 0 _ rfl
  have c1 : w1.cell? ⟨gl, 1, none⟩ = some (.int .u32 hd.gen) := cell 1 _ rfl
  have c2 : w1.cell? ⟨gl, 2, none⟩ = some (.int .i64 hd.blk) := cell 2 _ rfl
  have c3 : w1.cell? ⟨gl, 3, none⟩ = some (.int .u32 hd.rgen) := cell 3 _ rfl
  have l0 : (0 : Int) < ((tl.length : Int) + 1) := by omega
  have lb : decide (0 < (hd :: tl).length) = true := by simp
  have lb2 : 0 < (hd :: tl).length := by simp
  have lb3 : decide ((0 : Int) < ((tl.length : Int) + 1)) = true := by simp
  have v0 := cellOf e2 0 rfl
  have v0' := fun o => cellA o v0
  have v0'' := fun o o1 o2 => cellA o2 (cellA o1 (cellA o v0))
  have t0'' := fun o o1 o2 => cellA o2 (cellA o1 (cellA o (cellOf e0 0 rfl)))
  have t1'' := fun o o1 o2 => cellA o2 (cellA o1 (cellA o (cellOf e0 1 rfl)))
  have f0'' : ∀ o o1 o2, (((w1.alloc o).alloc o1).alloc o2).frozen? ⟨w.heap.size, 0, none⟩ = false := fun o o1 o2 => (((e0.alloc o).alloc o1).alloc o2).frozen 0
  have f1'' : ∀ o o1 o2, (((w1.alloc o).alloc o1).alloc o2).frozen? ⟨w.heap.size, 1, none⟩ = false := fun o o1 o2 => (((e0.alloc o).alloc o1).alloc o2).frozen 1
  have HD1 := hide hd1
  have HO1 := hide hoW
  have HE0 := hide e0
  have HE1 := hide e1
  have HE2 := hide e2
  rw [hz0] at c2
  clear hd1 ho1 hoW e0 e1 e2 hrow hno hown cell htk
  go_wp2
  refine wp_loop_rounds 1 ?_
  rw [rounds_succ]
  go_wp2_with fail
  have HB3 := hide (show Below w1.heap.size w1 (((w1.alloc (.cells #[.int .i64 hd.slot, .int .u32 hd.gen, .int .i64 0, .int .u32 hd.rgen] 149)).alloc (.map #[] 0)).alloc (.cells #[.iface 23 (.pointer (some ⟨b, 0, none⟩)), .int .u32 hd.gen, .map (some (w1.heap.size + 1)), .int .i64 0] 231)) from (((Below.refl _ _).alloc (Nat.le_refl _) _).alloc (by simp) _).alloc (by simp; omega) _)
  have HO3 := hide (show Only (fun x => x = w.heap.size) w1 ((((w1.alloc (.cells #[.int .i64 hd.slot, .int .u32 hd.gen, .int .i64 0, .int .u32 hd.rgen] 149)).alloc (.map #[] 0)).alloc (.cells #[.iface 23 (.pointer (some ⟨b, 0, none⟩)), .int .u32 hd.gen, .map (some (w1.heap.size + 1)), .int .i64 0] 231)).setCell ⟨w.heap.size, 1, none⟩ (.int .i64 0)) from Only.setCell (fp := fun x => x = w.heap.size) (p := ⟨w.heap.size, 1, none⟩) (Only.of_below HB3.out) (.inl rfl) _)
  have h3e : Blk ((((w1.alloc (.cells #[.int .i64 hd.slot, .int .u32 hd.gen, .int .i64 0, .int .u32 hd.rgen] 149)).alloc (.map #[] 0)).alloc (.cells #[.iface 23 (.pointer (some ⟨b, 0, none⟩)), .int .u32 hd.gen, .map (some (w1.heap.size + 1)), .int .i64 0] 231)).setCell ⟨w.heap.size, 1, none⟩ (.int .i64 0)) w.heap.size 88 #[.pointer none, .int .i64 0] := (HE0.out.below HB3.out HE0.out.lt).set_ 1 (.int .i64 0)
  have h3h : Blk ((((w1.alloc (.cells #[.int .i64 hd.slot, .int .u32 hd.gen, .int .i64 0, .int .u32 hd.rgen] 149)).alloc (.map #[] 0)).alloc (.cells #[.iface 23 (.pointer (some ⟨b, 0, none⟩)), .int .u32 hd.gen, .map (some (w1.heap.size + 1)), .int .i64 0] 231)).setCell ⟨w.heap.size, 1, none⟩ (.int .i64 0)) w1.heap.size 149 #[.int .i64 hd.slot, .int .u32 hd.gen, .int .i64 0, .int .u32 hd.rgen] := ((((Blk.new w1 _ _).alloc _).alloc _)).only (Only.set1 _ w.heap.size 1 (.int .i64 0)) (by omega)
  have hd3 := HD1.out.only HO3.out (fun x hx e => by have := H.out.lt hx; omega)
  refine (vflush_any (K + 2) b g base n cv (ticks m 2) bytes cache _ hd3 (ticks_calm HC.out 2).bad (by omega)).mono ?_
  rintro e w4 ⟨rfl, hd4, ho4⟩
  have hz4 : w1.heap.size + 1 + 1 + 1 ≤ w4.heap.size := by have := ho4.size; simpa using this
  have hgl : g < w.heap.size := H.out.blk.lt
  have i0 := h3e.only ho4 (by omega)
  have i1 := (HE1.out.only HO3.out (by omega)).only ho4 (by omega)
  have i2 := (HE2.out.only HO3.out (by omega)).only ho4 (by omega)
  have i3 := h3h.only ho4 (by omega)
  have ho5 := (HO1.out.mono (fq := fun x => x = b ∨ x = g) (fun x _ h => .inl h)).trans' ((HO3.out.mono (fq := fun x => x = b ∨ x = g ∨ x = w.heap.size) (fun x _ h => .inr (.inr h))).trans (ho4.mono (fq := fun x => x = b ∨ x = g ∨ x = w.heap.size) (fun x _ h => h.imp id .inl))) (fun x hx h => by rcases h with h | h | h <;> omega)
  have d0 := cellOf i0 0 rfl
  have d1 := cellOf i0 1 rfl
  have d2 := cellOf i1 0 rfl
  have d3 := cellOf i2 0 rfl
  have d4 := cellOf i3 0 rfl
  have d5 := cellOf i3 1 rfl
  have d6 := cellOf i3 2 rfl
  have d7 := cellOf i3 3 rfl
  have f4 : w4.frozen? ⟨w.heap.size, 0, none⟩ = false := i0.frozen 0
  have f5 : w4.frozen? ⟨w.heap.size, 1, none⟩ = false := i0.frozen 1
  have f6 : w4.frozen? ⟨w.heap.size + 1, 0, none⟩ = false := i1.frozen 0
  have HD4 := hide hd4
  have HO4 := hide ho5
  have HI0 := hide i0
  have HI1 := hide i1
  clear hd3 hd4 ho4 i0 i1 i2 i3 ho5 hcur c0 c1 c2 c3 v0 v0' v0'' t0'' t1'' f0'' f1'' h3e h3h l0 lb lb2 lb3
  go_upto_region 13 with fail
  refine wp_region_noPanic ?_
  refine wp_region_held_drew (S := fun w' => w'.cell? ⟨w.heap.size + 1 + 1, 0, none⟩ = some (.iface 23 (.pointer (some ⟨b, 0, none⟩))) ∧ w'.cell? ⟨w1.heap.size, 0, none⟩ = some (.int .i64 hd.slot) ∧ w'.cell? ⟨w1.heap.size, 1, none⟩ = some (.int .u32 hd.gen) ∧ w'.cell? ⟨w1.heap.size, 2, none⟩ = some (.int .i64 0) ∧ w'.cell? ⟨w1.heap.size, 3, none⟩ = some (.int .u32 hd.rgen) ∧ w'.cell? ⟨w.heap.size, 0, none⟩ = some (.pointer none) ∧ w'.cell? ⟨w.heap.size, 1, none⟩ = some (.int .i64 0)) (by kernel_rfl) ⟨d3, d4, d5, d6, d7, d0, d1⟩ ?_
  intro hS0
  refine wpAnyH_takeD (i := 0) (v := (.agg #[.iface 23 (.pointer (some ⟨b, 0, none⟩))])) (some 46) rfl rfl (by kernel_rfl) (by kernel_rfl) (by kernel_rfl) (fun _ _ _ h => h) (Or.inl ⟨rfl, fun w' hSw => by have s1 := hSw.1; clear hSw; go_simp⟩) hS0 ?_
  simp only [Act.put, List.setIfInBounds_toArray, List.set_cons_zero, List.set_cons_succ]
  refine wpAnyH_takeD (i := 1) (v := (.agg #[.int .i64 hd.slot, .int .u32 hd.gen, .int .i64 0, .int .u32 hd.rgen])) (some 47) rfl rfl (by kernel_rfl) (by kernel_rfl) (by kernel_rfl) (fun _ _ _ h => h) (Or.inl ⟨rfl, fun w' hSw => by obtain ⟨_, s1, s2, s3, s4, _⟩ := hSw; go_simp⟩) hS0 ?_
  simp only [Act.put, List.setIfInBounds_toArray, List.set_cons_zero, List.set_cons_succ]
  refine wpAnyH_takeD (i := 2) (v := (.agg #[.iface 23 (.pointer (some ⟨b, 0, none⟩)), .int .i64 hd.slot, .int .u32 hd.gen, .int .i64 0, .int .u32 hd.rgen])) (some 48) rfl rfl (by kernel_rfl) (by kernel_rfl) (by kernel_rfl) (fun _ _ _ h => h) (Or.inl ⟨rfl, fun w' hSw => by clear hSw; go_simp⟩) hS0 ?_
  simp only [Act.put, List.setIfInBounds_toArray, List.set_cons_zero, List.set_cons_succ]
  refine wpAnyH_takeD (i := 4) (v := (.agg #[.pointer none, .int .i64 0])) (some 50) rfl rfl (by kernel_rfl) (by kernel_rfl) (by kernel_rfl) (fun _ _ _ h => h) (Or.inl ⟨rfl, fun w' hSw => by obtain ⟨_, _, _, _, _, s1, s2⟩ := hSw; go_simp⟩) hS0 ?_
  simp only [Act.put, List.setIfInBounds_toArray, List.set_cons_zero, List.set_cons_succ]
  refine wpAnyH_one (i := 3) (by kernel_rfl) rfl rfl ?_
  go_simp
  have hS0 : (w4.alloc (.cells #[.iface 23 (.pointer (some ⟨b, 0, none⟩)), .int .i64 hd.slot, .int .u32 hd.gen, .int .i64 0, .int .u32 hd.rgen] 151)).drew.cell? ⟨w.heap.size + 1 + 1, 0, none⟩ = some (.iface 23 (.pointer (some ⟨b, 0, none⟩))) ∧ (w4.alloc (.cells #[.iface 23 (.pointer (some ⟨b, 0, none⟩)), .int .i64 hd.slot, .int .u32 hd.gen, .int .i64 0, .int .u32 hd.rgen] 151)).drew.cell? ⟨w1.heap.size, 0, none⟩ = some (.int .i64 hd.slot) ∧ (w4.alloc (.cells #[.iface 23 (.pointer (some ⟨b, 0, none⟩)), .int .i64 hd.slot, .int .u32 hd.gen, .int .i64 0, .int .u32 hd.rgen] 151)).drew.cell? ⟨w1.heap.size, 1, none⟩ = some (.int .u32 hd.gen) ∧ (w4.alloc (.cells #[.iface 23 (.pointer (some ⟨b, 0, none⟩)), .int .i64 hd.slot, .int .u32 hd.gen, .int .i64 0, .int .u32 hd.rgen] 151)).drew.cell? ⟨w1.heap.size, 2, none⟩ = some (.int .i64 0) ∧ (w4.alloc (.cells #[.iface 23 (.pointer (some ⟨b, 0, none⟩)), .int .i64 hd.slot, .int .u32 hd.gen, .int .i64 0, .int .u32 hd.rgen] 151)).drew.cell? ⟨w1.heap.size, 3, none⟩ = some (.int .u32 hd.rgen) ∧ (w4.alloc (.cells #[.iface 23 (.pointer (some ⟨b, 0, none⟩)), .int .i64 hd.slot, .int .u32 hd.gen, .int .i64 0, .int .u32 hd.rgen] 151)).drew.cell? ⟨w.heap.size, 0, none⟩ = some (.pointer none) ∧ (w4.alloc (.cells #[.iface 23 (.pointer (some ⟨b, 0, none⟩)), .int .i64 hd.slot, .int .u32 hd.gen, .int .i64 0, .int .u32 hd.rgen] 151)).drew.cell? ⟨w.heap.size, 1, none⟩ = some (.int .i64 0) := ⟨cellA _ d3, cellA _ d4, cellA _ d5, cellA _ d6, cellA _ d7, cellA _ d0, cellA _ d1⟩
  refine ⟨hS0, ?_⟩
  refine wpAnyH_takeD (i := 5) (v := (.pointer (some ⟨w4.heap.size, 0, none⟩))) (some 2) rfl rfl (by kernel_rfl) (by kernel_rfl) (by kernel_rfl) (fun _ _ _ h => h) (Or.inl ⟨rfl, fun w' hSw => by clear hSw; go_simp⟩) hS0 ?_
  simp only [Act.put, List.setIfInBounds_toArray, List.set_cons_zero, List.set_cons_succ]
  have j0 := HI0.out.alloc (.cells #[.iface 23 (.pointer (some ⟨b, 0, none⟩)), .int .i64 hd.slot, .int .u32 hd.gen, .int .i64 0, .int .u32 hd.rgen] 151)
  have j1 := HI1.out.alloc (.cells #[.iface 23 (.pointer (some ⟨b, 0, none⟩)), .int .i64 hd.slot, .int .u32 hd.gen, .int .i64 0, .int .u32 hd.rgen] 151)
  refine wpAnyH_one (i := 6) (by kernel_rfl) rfl rfl ?_
  refine wp_store_sz 88 (.tmp 3) (.tmp 50) rfl w.heap.size 0 [.pointer none, .int .i64 0] rfl rfl 88 [.pointer none, .int .i64 0] j0.drew (Nat.le_refl _) size_tree two_cells ?_
  intro w5 hb5 hg5 hs5
  have hO5 : Only (fun x => x = w.heap.size) w4 w5 := Only.grown (((Only.refl _ _).alloc (.cells #[.iface 23 (.pointer (some ⟨b, 0, none⟩)), .int .i64 hd.slot, .int .u32 hd.gen, .int .i64 0, .int .u32 hd.rgen] 151)).drew) hg5 fun g' e => .inl (by injection e with e; exact e.symm)
  have hb5 : Blk w5 w.heap.size 88 #[.pointer none, .int .i64 0] := by rw [spl_all (L := [.pointer none, .int .i64 0]) (cs := [.pointer none, .int .i64 0]) rfl] at hb5; exact hb5
  have hD5 : Blk w5 w4.heap.size 151 #[.iface 23 (.pointer (some ⟨b, 0, none⟩)), .int .i64 hd.slot, .int .u32 hd.gen, .int .i64 0, .int .u32 hd.rgen] := (Blk.new w4 _ _).drew.grown hg5 (fun e => by injection e; omega)
  have q3 := (hO5.cell (p := ⟨w.heap.size + 1 + 1, 0, none⟩) (show w.heap.size + 1 + 1 < w4.heap.size by omega) (show ¬ (w.heap.size + 1 + 1 = w.heap.size) by omega)).trans d3
  have q4 := (hO5.cell (p := ⟨w1.heap.size, 0, none⟩) (show w1.heap.size < w4.heap.size by omega) (show ¬ (w1.heap.size = w.heap.size) by omega)).trans d4
  have q5 := (hO5.cell (p := ⟨w1.heap.size, 1, none⟩) (show w1.heap.size < w4.heap.size by omega) (show ¬ (w1.heap.size = w.heap.size) by omega)).trans d5
  have q6 := (hO5.cell (p := ⟨w1.heap.size, 2, none⟩) (show w1.heap.size < w4.heap.size by omega) (show ¬ (w1.heap.size = w.heap.size) by omega)).trans d6
  have q7 := (hO5.cell (p := ⟨w1.heap.size, 3, none⟩) (show w1.heap.size < w4.heap.size by omega) (show ¬ (w1.heap.size = w.heap.size) by omega)).trans d7
  have q0 := cellOf hb5 0 rfl
  have q1 := cellOf hb5 1 rfl
  have hS0 : w5.cell? ⟨w.heap.size + 1 + 1, 0, none⟩ = some (.iface 23 (.pointer (some ⟨b, 0, none⟩))) ∧ w5.cell? ⟨w1.heap.size, 0, none⟩ = some (.int .i64 hd.slot) ∧ w5.cell? ⟨w1.heap.size, 1, none⟩ = some (.int .u32 hd.gen) ∧ w5.cell? ⟨w1.heap.size, 2, none⟩ = some (.int .i64 0) ∧ w5.cell? ⟨w1.heap.size, 3, none⟩ = some (.int .u32 hd.rgen) ∧ w5.cell? ⟨w.heap.size, 0, none⟩ = some (.pointer none) ∧ w5.cell? ⟨w.heap.size, 1, none⟩ = some (.int .i64 0) := ⟨q3, q4, q5, q6, q7, q0, q1⟩
  refine ⟨hS0, ?_⟩
  change wpAnyH _ _ _ _ _ _ _ (Act.put _ none undef) _
  simp only [Act.put]
  have j1 : Blk w5 (w.heap.size + 1) 31 #[.nilIface] := (HI1.out).only hO5 (by omega)
  have k4 : w5.frozen? ⟨w.heap.size + 1, 0, none⟩ = false := j1.frozen 0
  have k5 := cellOf j1 0 rfl
  refine wpAnyH_one (i := 7) (by kernel_rfl) rfl rfl ?_
  go_simp
  refine wpAnyH_done (by kernel_rfl) ?_ _
  refine NoPanic.normal ?_
  have HD5 := hide hD5
  have HJ0 := hide hb5
  have HJ1 := hide j1
  have HO5 := hide hO5
  have hz5 : w4.heap.size + 1 = w5.heap.size := by have := hs5; simpa using this.symm
  clear hD5 hb5 j1 hO5 hg5 hs5 hS0 j0
  go_wp2
  refine leaves_cons (f := 142) (args := #[.pointer (some ⟨w.heap.size + 1, 0, none⟩)]) (by simp) (by simp [go_sem]) ?_
  refine (openD ⟨w.heap.size + 1, 0, none⟩ _).mono ?_
  rintro e u' w7 ⟨rfl, rfl, rfl⟩
  have oE := Only.set1 w5 (w.heap.size + 1) 0 .nilIface
  have r0 := cellOf (HJ0.out.only oE (by omega)) 0 rfl
  have r1 := cellOf (HJ0.out.only oE (by omega)) 1 rfl
  have r2 := cellOf (HJ1.out.set_ 0 .nilIface) 0 rfl
  refine ⟨.tuple #[.pointer (some ⟨w4.heap.size, 0, none⟩), .agg #[.pointer none, .int .i64 0], .nilIface], by simp [results, Tryz.results104, go_sem, r0, r1, r2], w4.heap.size, rfl, ?_, by omega, ?_, ?_⟩
  · have := HD5.out.only oE (by omega)
    have hcs : (#[.iface 23 (.pointer (some ⟨b, 0, none⟩))] : Array Value) ++ hd.cells = #[.iface 23 (.pointer (some ⟨b, 0, none⟩)), .int .i64 hd.slot, .int .u32 hd.gen, .int .i64 0, .int .u32 hd.rgen] := by
      unfold Hd.cells
      rw [hz0]
      rfl
    rw [hcs]
    exact this
  · have hlt : ∀ x, dfp b g (.slice none 0 0) x → x < w.heap.size := fun x hx => by
      rcases hx with h | h | h
      · omega
      · omega
      · simp [Value.ownBlock] at h
    exact (HD4.out.only HO5.out fun x hx e => by have := hlt x hx; omega).only oE fun x hx e => by have := hlt x hx; omega
  · refine (HO4.out.trans' (HO5.out.mono (fq := fun x => x = b ∨ x = g ∨ x = w.heap.size) fun x _ h => .inr (.inr h)) (fun x hx h => by rcases h with h | h | h <;> omega)).setCell (p := ⟨w.heap.size + 1, 0, none⟩) (.inr (by simp)) _
end Go.Proofs.YtemondlgcmpbbaaGreatDoor

/- Plain: the heads behind Format; a disk of noughts. -/
namespace Go.Proofs.YtemondlgcmpbbaaGreatDoor
open Go.RowKit

/-- Every head that is there says 'no tree', and its number is at most G. -/
def Hz (c : Nat → List UInt8) (G : Nat) : Prop := ∀ i, i < 2 → pOk (c i) = true → pBlk (c i) = 0 ∧ pGen (c i) ≤ G
theorem Hz.mono {c : Nat → List UInt8} {G G' : Nat} (h : Hz c G) (hg : G ≤ G') : Hz c G' := fun i hi ho => ⟨(h i hi ho).1, Nat.le_trans (h i hi ho).2 hg⟩

theorem headUp2 (c : Nat → List UInt8) : headUp c 2 = (if pOk (c 0) then [headOf 0 (c 0)] else []) ++ (if pOk (c 1) then [headOf 1 (c 1)] else []) := by
  unfold headUp headUp headUp; simp

theorem Hz.heads {c : Nat → List UInt8} {G : Nat} (h : Hz c G) : ∀ x ∈ headsN c, x.blk = 0 ∧ x.gen ≤ G := by
  intro x hx
  have := headsN_mem c x hx
  rw [headUp2] at this
  rcases List.mem_append.1 this with h1 | h1
  · split at h1
    · rename_i ho
      rw [List.mem_singleton.1 h1]
      exact h 0 (by omega) ho
    · cases h1
  · split at h1
    · rename_i ho
      rw [List.mem_singleton.1 h1]
      exact h 1 (by omega) ho
    · cases h1

/-- A head's sector with its own bytes as the parser reads them. -/
theorem headB_get (gen : Nat) (hg : gen < 4294967296) : (headB gen 0 0).length = 32 ∧ ∀ r, pGen (headB gen 0 0 ++ r) = gen ∧ pBlk (headB gen 0 0 ++ r) = 0 ∧ pRgen (headB gen 0 0 ++ r) = 0 ∧ pMagic (headB gen 0 0 ++ r) = 827479123 ∧ sealedN ((headB gen 0 0 ++ r).take 32) = true := by
  have hl : (headB gen 0 0).length = 32 := rfl
  refine ⟨hl, fun r => ?_⟩
  have ht : (headB gen 0 0 ++ r).take 32 = headB gen 0 0 := by rw [← hl, List.take_left]
  unfold pGen pBlk pRgen pMagic
  rw [ht]
  have h0 : headB gen 0 0 = le4 (crcN ((headB0 gen 0 0).drop 4)) ++ (le4 827479123 ++ (le4 gen ++ (le4 0 ++ (le4 0 ++ List.replicate 12 0)))) := rfl
  refine ⟨?_, ?_, ?_, ?_, ?_⟩
  · rw [h0]; exact get4_le4 gen hg _
  · rw [h0]; exact get4_le4 0 (by omega) _
  · rw [h0]; exact get4_le4 0 (by omega) _
  · rw [h0]; exact get4_le4 827479123 (by omega) _
  · unfold headB; exact sealN_sealed _

theorem pOk_new (gen : Nat) (h0 : 0 < gen) (h1 : gen < 1073741824) : pOk (pad 128 (headB gen 0 0)) = true ∧ pGen (pad 128 (headB gen 0 0)) = gen ∧ pBlk (pad 128 (headB gen 0 0)) = 0 := by
  obtain ⟨_, hh⟩ := headB_get gen (by omega)
  obtain ⟨a1, a2, a3, a4, a5⟩ := hh (List.replicate (128 - (headB gen 0 0).length) 0)
  unfold pad
  refine ⟨?_, a1, a2⟩
  unfold pOk
  rw [a1, a2, a3, a4, a5]
  simp [h0, h1]

theorem dread_nil (bytes : List UInt8) (i : Nat) : dread bytes [] i = (bytes.drop (i * 128)).take 128 := rfl
theorem dread_dset_same {bytes : List UInt8} {n s : Nat} {x : List UInt8} (hl : bytes.length = n * 128) (hs : s < n) (hx : x.length = 128) : dread (dset bytes (s, x)) [] s = x := by
  rw [dread_nil]
  unfold dset
  simp only
  have h1 : (bytes.take (s * 128)).length = s * 128 := by rw [List.length_take]; omega
  rw [List.append_assoc, List.drop_append_of_le_length (by omega), List.drop_of_length_le (by omega), List.nil_append, List.take_append_of_le_length (by omega), List.take_of_length_le (by omega)]
theorem dread_dset_other {bytes : List UInt8} {n s i : Nat} {x : List UInt8} (hl : bytes.length = n * 128) (hs : s < n) (_hi : i < n) (hx : x.length = 128) (hne : i ≠ s) : dread (dset bytes (s, x)) [] i = dread bytes [] i := by
  rw [dread_nil, dread_nil]
  unfold dset
  simp only
  apply List.ext_getElem?
  intro j
  simp only [List.getElem?_take, List.getElem?_drop]
  split
  · rename_i hj
    have h1 : (bytes.take (s * 128)).length = s * 128 := by rw [List.length_take]; omega
    rcases Nat.lt_or_gt_of_ne hne with h | h
    · rw [List.append_assoc, List.getElem?_append_left (by omega), List.getElem?_take, if_pos (by omega)]
    · rw [List.getElem?_append_right (by simp only [List.length_append, h1, hx]; omega), List.getElem?_drop]
      congr 1
      simp only [List.length_append, h1, hx]
      omega
  · rfl

/-- Behind Format: the newest head is the new one. -/
theorem format_heads {bytes : List UInt8} {n G : Nat} (hl : bytes.length = n * 128) (hn : 8 ≤ n) (hz : Hz (dread bytes []) G) (hG : G + 1 < 1073741824) :
    ∃ hd tl, headsN (dread (formatB bytes [] (nextHead (headsN (dread bytes [])))) []) = hd :: tl ∧ hd.blk = 0 ∧ Hz (dread (formatB bytes [] (nextHead (headsN (dread bytes [])))) []) (G + 1) := by
  obtain ⟨hs, hhs⟩ : ∃ hs, hs = headsN (dread bytes []) := ⟨_, rfl⟩
  have hmem : ∀ x ∈ hs, x.slot < 2 ∧ x.gen < 1073741824 ∧ 0 < x.gen := fun x hx => headUp_slot _ 2 x (headsN_mem _ x (hhs ▸ hx))
  have hle : ∀ x ∈ hs, x.blk = 0 ∧ x.gen ≤ G := fun x hx => hz.heads x (hhs ▸ hx)
  rw [← hhs]
  have hfl : dflush bytes [] = bytes := rfl
  unfold formatB
  rw [hfl]
  obtain ⟨s, hs0⟩ : ∃ s, s = (nextHead hs).1 := ⟨_, rfl⟩
  obtain ⟨gn, hg0⟩ : ∃ gn, gn = (nextHead hs).2 := ⟨_, rfl⟩
  have hslt : s < 2 := by
    rw [hs0]; cases hs with
    | nil => show 0 < 2; omega
    | cons h t => show 1 - h.slot < 2; omega
  have hgb : 0 < gn ∧ gn ≤ G + 1 := by
    rw [hg0]; cases hs with
    | nil => show 0 < 1 ∧ 1 ≤ G + 1; omega
    | cons h t => have := (hle h (by simp)).2; show 0 < h.gen + 1 ∧ h.gen + 1 ≤ G + 1; omega
  rw [← hs0, ← hg0]
  obtain ⟨p1, p2, p3⟩ := pOk_new gn hgb.1 (by omega)
  have hxl : (pad 128 (headB gn 0 0)).length = 128 := pad_length _ _ (by rw [(headB_get gn (by omega)).1]; omega)
  obtain ⟨c, hc⟩ : ∃ c, c = dread (dset bytes (s, pad 128 (headB gn 0 0))) [] := ⟨_, rfl⟩
  have c1 : c s = pad 128 (headB gn 0 0) := by rw [hc]; exact dread_dset_same hl (by omega) hxl
  have c2 : ∀ i, i < 2 → i ≠ s → c i = dread bytes [] i := fun i hi hne => by rw [hc]; exact dread_dset_other hl (by omega) (by omega) hxl hne
  rw [← hc]
  have hz' : Hz c (G + 1) := by
    intro i hi ho
    by_cases he : i = s
    · subst he
      rw [c1, p2, p3]; exact ⟨rfl, hgb.2⟩
    · rw [c2 i hi he] at ho ⊢
      exact ⟨(hz i hi ho).1, by have := (hz i hi ho).2; omega⟩
  have hnew : pOk (c s) = true := by rw [c1]; exact p1
  have hng : pGen (c s) = gn := by rw [c1]; exact p2
  have hex : ∃ hd tl, headsN c = hd :: tl := by
    unfold headsN
    rw [headUp2]
    have : s = 0 ∨ s = 1 := by omega
    cases e0 : pOk (c 0) <;> cases e1 : pOk (c 1)
    · rcases this with h | h
      · rw [h, e0] at hnew; cases hnew
      · rw [h, e1] at hnew; cases hnew
    · exact ⟨_, _, rfl⟩
    · exact ⟨_, _, rfl⟩
    · simp only [if_true, List.singleton_append]
      unfold newest
      by_cases hq : (headOf 0 (c 0)).gen < (headOf 1 (c 1)).gen
      · exact ⟨_, _, if_pos hq⟩
      · exact ⟨_, _, if_neg hq⟩
  obtain ⟨hd, tl, he⟩ := hex
  exact ⟨hd, tl, he, (hz'.heads hd (by rw [he]; simp)).1, hz'⟩

theorem zero_not (i n : Nat) : pOk (dread (List.replicate n 0) [] i) = false := by
  have hm : pMagic (dread (List.replicate n 0) [] i) = 0 := by
    unfold pMagic
    rw [dread_nil, List.drop_replicate, List.take_replicate, List.take_replicate, List.drop_replicate]
    generalize min 32 (min 128 (n - i * 128)) - 4 = k
    match k with
    | 0 => rfl
    | 1 => rfl
    | 2 => rfl
    | 3 => rfl
    | k + 4 => rfl
  unfold pOk
  rw [hm]
  simp
theorem Hz_zero (n G : Nat) : Hz (dread (List.replicate n 0) []) G := fun i _ ho => by rw [zero_not] at ho; cases ho
theorem heads_zero (n : Nat) : headsN (dread (List.replicate n 0) []) = [] := by
  unfold headsN
  rw [headUp2, zero_not, zero_not]
  rfl
end Go.Proofs.YtemondlgcmpbbaaGreatDoor

/- Walks: api.NewDisk, Bytes, Laid. -/
namespace Go.Proofs.YtemondlgcmpbbaaGreatDoor
open Go.RowKit

/-- How many blocks NewDisk makes of a number. -/
def blocksN (n : Int) : Nat := if n < 0 then 0 else (n % 1000).toNat
theorem blocksN_lt (n : Int) : blocksN n < 1000 := by unfold blocksN; split <;> omega
/-- A new disk's numbers. -/
def Nums.new : Nums := ⟨0, 0, 0, -1, 0, 0⟩
theorem Nums.new_calm : Nums.new.calm := ⟨by decide, by decide⟩
theorem Nums.new_sm (K : Nat) : Nums.new.sm K := ⟨by decide, Int.natCast_nonneg K, by decide, Int.natCast_nonneg K, by decide, Int.natCast_nonneg K⟩

theorem info_arr : (Tryz.prog.info? 111).map (fun i => (i.zero, i.size, i.bytes)) = some (some (.agg (bc (List.replicate 128 0)).toArray), 128, 128) := by kernel_rfl
theorem made_const (v : Value) (m n : Nat) (hm : 0 < m) : madeCells (List.replicate m v).toArray n = (List.replicate n v).toArray := by
  apply Array.ext'
  unfold madeCells
  rw [Array.toList_map, Array.toList_range]
  have h : ∀ j ∈ List.range n, (List.replicate m v).toArray[j % (List.replicate m v).toArray.size]! = v := fun j _ => by
    have h0 : j % (List.replicate m v).toArray.size < (List.replicate m v).toArray.size := Nat.mod_lt _ (by simpa using hm)
    rw [getElem!_pos (List.replicate m v).toArray _ h0]
    simp
  rw [List.map_congr_left h, List.map_const']
  simp
theorem bc_zero (n : Nat) : bc (List.replicate n 0) = List.replicate n (.int .u8 0) := by simp [bc]
theorem madeZero (k : Nat) : madeCells (bc (List.replicate 128 0)).toArray (k * 128) = (bc (List.replicate (k * 128) 0)).toArray := by
  rw [bc_zero, bc_zero]
  exact made_const _ _ _ (by omega)

theorem make_blocks (w : World) (k : Nat) (hk : k < 1000) : (Instr.makeSlice 100 (.int .i64 k) (.int .i64 k)).run Tryz.prog w = .ok (.slice (some ⟨w.heap.size, 0, none⟩) k k) (w.alloc (.cells (bc (List.replicate (k * 128) 0)).toArray 111)) := by
  obtain ⟨i0, hi0, hz0, hz1, hz2⟩ := info_parts info_arr
  have := run_make (P := Tryz.prog) w 100 111 i0 _ Tryz.underlying100 hi0 hz0 .i64 .i64 k k (by omega) (Int.le_refl _) (by rw [hz2]; omega) (by omega)
  rw [hz1] at this
  simp only [Int.toNat_natCast, Value.cells] at this
  rw [madeZero] at this
  exact this

set_option maxRecDepth 100000 in
theorem newDisk_any (n : Int) (base : Nat) (w : World) (hb : base ≤ w.heap.size) :
    Calls Tryz.prog 49 #[.int .i64 n] w fun e w' => ∃ b g, e = .returned (.pointer (some ⟨b, 0, none⟩)) ∧ Dk w' 0 b g base (blocksN n) (.slice none 0 0) Nums.new (List.replicate (blocksN n * 128) 0) [] ∧ w.heap.size ≤ b ∧ w.heap.size ≤ g ∧ Below w.heap.size w w' := by
  have fin : ∀ k : Nat, k < 1000 → k = blocksN n → ∀ w' : World, w' = ((w.alloc (.cells (bc (List.replicate (k * 128) 0)).toArray 111)).alloc (.cells #[.slice (some ⟨w.heap.size, 0, none⟩) k k, .slice none 0 0, .int .i64 0, .int .i64 0, .int .i64 0, .int .i64 (-1), .int .i64 0, .int .i64 0] 103)) →
      ∃ b g, Ending.returned (.pointer (some ⟨w.heap.size + 1, 0, none⟩)) = .returned (.pointer (some ⟨b, 0, none⟩)) ∧ Dk w' 0 b g base (blocksN n) (.slice none 0 0) Nums.new (List.replicate (blocksN n * 128) 0) [] ∧ w.heap.size ≤ b ∧ w.heap.size ≤ g ∧ Below w.heap.size w w' := by
    rintro k hk rfl w' rfl
    refine ⟨w.heap.size + 1, w.heap.size, rfl, ⟨Blk.new2 _ _ _ _, (Blk.new w _ _).alloc _, by simp, ⟨rfl, .inl ⟨rfl, rfl⟩⟩, (fun x hx => by cases hx), Nat.zero_le _, Nums.new_sm 0, by omega, by simp; omega⟩, by omega, by omega, ((Below.refl _ _).alloc (Nat.le_refl _) _).alloc (by simp) _⟩
  by_cases hn : n < 0
  · have hmk := make_blocks w 0 (by omega)
    have h0 : (((0 : Nat) : Int)) = 0 := rfl
    rw [h0] at hmk
    have HF := hide (fin 0 (by omega) (by unfold blocksN; rw [if_pos hn]))
    clear fin
    go_enter Tryz.func49, Tryz.ntmps49
    go_wp2
    go_ret
    obtain ⟨b, g, h1, h2, h3, h4, h5⟩ := HF.out _ rfl
    first | exact ⟨b, h1, g, h2, h3, h4, h5⟩ | exact ⟨b, g, h1, h2, h3, h4, h5⟩
  · obtain ⟨k, hk⟩ : ∃ k : Nat, n = k := ⟨n.toNat, by omega⟩
    have hmk := make_blocks w (k % 1000) (by omega)
    rw [show ((k % 1000 : Nat) : Int) = (k : Int) % 1000 by omega] at hmk
    have HF := hide (fin (k % 1000) (by omega) (by unfold blocksN; rw [if_neg hn, hk]; omega))
    subst hk
    have ht : Int.tmod (k : Int) 1000 = ((k % 1000 : Nat) : Int) := by rw [Int.tmod_eq_emod_of_nonneg (by omega)]; omega
    clear fin
    go_enter Tryz.func49, Tryz.ntmps49
    go_wp2
    go_ret
    obtain ⟨b, g, h1, h2, h3, h4, h5⟩ := HF.out _ rfl
    first | exact ⟨b, h1, g, h2, h3, h4, h5⟩ | exact ⟨b, g, h1, h2, h3, h4, h5⟩
end Go.Proofs.YtemondlgcmpbbaaGreatDoor

/- Walks: pick, near, blocks. -/
namespace Go.Proofs.YtemondlgcmpbbaaGreatDoor
open Go.RowKit

/-- A number of 64 bits. -/
def I64 (n : Int) : Prop := -9223372036854775808 ≤ n ∧ n ≤ 9223372036854775807

theorem pick_any (c : Int) (n : Nat) (w : World) (hc : I64 c) (hn : 0 < n) (hn2 : n ≤ 1000000) :
    Calls Tryz.prog 147 #[.int .i64 c, .int .i64 n] w fun e w' => ∃ k : Nat, e = .returned (.int .i64 k) ∧ k < n ∧ w = w' := by
  obtain ⟨h1, h2⟩ := hc
  have hn0 : ¬ (n : Int) = 0 := by omega
  have hn00 : ¬ n = 0 := by omega
  by_cases h0 : c < 0
  · obtain ⟨q, hq⟩ : ∃ q : Nat, c = -(q : Int) - 1 := ⟨(-(c + 1)).toNat, by omega⟩
    subst hq
    have w1 : IntKind.i64.wrap (-(q : Int) - 1 + 1) = -(q : Int) := by rw [IntKind.wrap_i64]; omega
    have w2 : IntKind.i64.wrap (-(-(q : Int))) = (q : Int) := by rw [IntKind.wrap_i64]; omega
    have w2' : IntKind.i64.wrap (q : Int) = (q : Int) := by rw [IntKind.wrap_i64]; omega
    have hm : Int.tmod (q : Int) n = (q : Int) % n := Int.tmod_eq_emod_of_nonneg (by omega)
    go_enter Tryz.func147, Tryz.ntmps147
    go_wp2
    go_ret
    exact ⟨q % n, by simp, Nat.mod_lt _ hn, rfl⟩
  · obtain ⟨q, hq⟩ : ∃ q : Nat, c = (q : Int) := ⟨c.toNat, by omega⟩
    subst hq
    have hm : Int.tmod (q : Int) n = (q : Int) % n := Int.tmod_eq_emod_of_nonneg (by omega)
    go_enter Tryz.func147, Tryz.ntmps147
    go_wp2
    go_ret
    exact ⟨q % n, by simp, Nat.mod_lt _ hn, rfl⟩

/-- Which of n things a raw number speaks of. -/
def pickN (c : Int) (n : Nat) : Nat := (if c < 0 then (-(c + 1)).toNat else c.toNat) % n
theorem pickN_lt (c : Int) (n : Nat) (h : 0 < n) : pickN c n < n := Nat.mod_lt _ h
theorem pick_fn (c : Int) (n : Nat) (w : World) (hc : I64 c) (hn : 0 < n) (hn2 : n ≤ 1000000) :
    Calls Tryz.prog 147 #[.int .i64 c, .int .i64 n] w fun e w' => e = .returned (.int .i64 (pickN c n)) ∧ w = w' := by
  obtain ⟨h1, h2⟩ := hc
  have hn0 : ¬ (n : Int) = 0 := by omega
  have hn00 : ¬ n = 0 := by omega
  by_cases h0 : c < 0
  · obtain ⟨q, hq⟩ : ∃ q : Nat, c = -(q : Int) - 1 := ⟨(-(c + 1)).toNat, by omega⟩
    have hp : pickN c n = q % n := by unfold pickN; rw [if_pos h0, show (-(c + 1)).toNat = q by omega]
    rw [hp]
    subst hq
    have w1 : IntKind.i64.wrap (-(q : Int) - 1 + 1) = -(q : Int) := by rw [IntKind.wrap_i64]; omega
    have w2 : IntKind.i64.wrap (-(-(q : Int))) = (q : Int) := by rw [IntKind.wrap_i64]; omega
    have w2' : IntKind.i64.wrap (q : Int) = (q : Int) := by rw [IntKind.wrap_i64]; omega
    have hm : Int.tmod (q : Int) n = (q : Int) % n := Int.tmod_eq_emod_of_nonneg (by omega)
    have HPP := hide hp
    clear hp
    go_enter Tryz.func147, Tryz.ntmps147
    go_wp2
    go_ret
    exact ⟨by simp, rfl⟩
  · obtain ⟨q, hq⟩ : ∃ q : Nat, c = (q : Int) := ⟨c.toNat, by omega⟩
    have hp : pickN c n = q % n := by unfold pickN; rw [if_neg h0, hq]; rfl
    rw [hp]
    subst hq
    have hm : Int.tmod (q : Int) n = (q : Int) % n := Int.tmod_eq_emod_of_nonneg (by omega)
    have HPP := hide hp
    clear hp
    go_enter Tryz.func147, Tryz.ntmps147
    go_wp2
    go_ret
    exact ⟨by simp, rfl⟩

theorem near_any (c : Int) (w : World) (hc : I64 c) :
    Calls Tryz.prog 197 #[.int .i64 c] w fun e w' => ∃ k : Nat, e = .returned (.int .i64 k) ∧ k < 600 ∧ w = w' := by
  have HP := hide (pick_any c 600 w hc (by omega) (by omega))
  go_enter Tryz.func197, Tryz.ntmps197
  go_wp2_with (go_at_call 147; refine HP.out.mono ?_; rintro e w' ⟨k, rfl, hk, rfl⟩)
  go_ret
  exact ⟨k, rfl, hk, rfl⟩

theorem blocks_of (c : Int) (w : World) :
    Calls Tryz.prog 174 #[.int .i64 c] w fun e w' => e = .returned (.int .i64 (blocksN c)) ∧ w = w' := by
  by_cases h0 : c < 0
  · have hb : blocksN c = 0 := by unfold blocksN; rw [if_pos h0]
    rw [hb]
    go_enter Tryz.func174, Tryz.ntmps174
    go_wp2
    go_ret
    exact ⟨rfl, rfl⟩
  · obtain ⟨q, hq⟩ : ∃ q : Nat, c = (q : Int) := ⟨c.toNat, by omega⟩
    have hb : blocksN c = q % 1000 := by unfold blocksN; rw [if_neg h0, hq]; omega
    rw [hb]
    subst hq
    have hm : Int.tmod (q : Int) 1000 = (q : Int) % 1000 := Int.tmod_eq_emod_of_nonneg (by omega)
    have HB := hide hb
    clear hb
    go_enter Tryz.func174, Tryz.ntmps174
    go_wp2
    go_ret
    exact ⟨by simp, rfl⟩
end Go.Proofs.YtemondlgcmpbbaaGreatDoor

/- Walks: errors.As at *api.Errno, of nil and of a fault that wraps a number; plain.Told, disk.Errno. -/
namespace Go.Proofs.YtemondlgcmpbbaaGreatDoor
open Go.RowKit Go.Extern.Stop Go.Stop Go.Extern

/-- The one variable of the library that is read: errors.errorType. -/
def Glob (w : World) : Prop := w.cell? ⟨0, 0, none⟩ = some (.iface 214 (.agg #[.pointer (some ⟨1, 31, none⟩)]))

theorem Glob.pos {w : World} (h : Glob w) : 0 < w.heap.size := World.block_lt_of_cell? w _ h
theorem Glob.only {fp : Nat → Prop} {w w' : World} (h : Glob w) (ho : Only fp w w') (hf : ¬ fp 0) : Glob w' := (ho.cell (p := ⟨0, 0, none⟩) h.pos hf).trans h
theorem Glob.below {w w' : World} (h : Glob w) (hb : Below w.heap.size w w') : Glob w' := h.only (fp := fun _ => False) (Only.of_below hb) id
theorem Glob.alloc {w : World} (h : Glob w) (o : Obj) : Glob (w.alloc o) := cellA o h

theorem as_nil (t : Value) (w : World) : Calls Tryz.prog 63 #[.nilIface, t] w fun e w' => e = .returned (.bool false) ∧ w' = w := by
  go_enter Tryz.func63, Tryz.ntmps63
  go_wp2
  go_ret
  exact ⟨rfl, rfl⟩

theorem aValueP (t : Addr) (w : World) : (ReflectliteValue.unpack (.iface 108 (.pointer (some t)))).run Tryz.prog w
    = .ok (.agg #[.pointer (some ⟨1, 108, none⟩), .pointer (some ⟨w.heap.size, 0, none⟩), .int .u64 150]) (w.alloc (.cells #[.pointer (some t)] 108)) := by kernel_rfl
theorem aTypeP (a : Addr) (w : World) : (ReflectliteValue.methodAny (ReflectliteValue.valueError "reflectlite.Value.Type" 0) (fun t _ _ _ => ReflectliteType.toType t) #[.agg #[.pointer (some ⟨1, 108, none⟩), .pointer (some a), .int .u64 150]]).run Tryz.prog w
    = .ok (.iface 214 (.agg #[.pointer (some ⟨1, 108, none⟩)])) w := by kernel_rfl
theorem aMethodKind (h : Value) (w : World) : (Go.method 431 214 (.agg #[h]) "Kind").run Tryz.prog w = .ok (234, h) w := by kernel_rfl
theorem aKindP (w : World) : ((ReflectliteType.abiMethod fun t => (fun a : Nat => Value.int IntKind.u8 (a : Int)) <$> Rtype.kind t) #[.pointer (some ⟨1, 108, none⟩)]).run Tryz.prog w = .ok (.int .u8 22) w := by kernel_rfl
theorem aKindE (w : World) : ((ReflectliteType.abiMethod fun t => (fun a : Nat => Value.int IntKind.u8 (a : Int)) <$> Rtype.kind t) #[.pointer (some ⟨1, 44, none⟩)]).run Tryz.prog w = .ok (.int .u8 2) w := by kernel_rfl
theorem rlm (z : Sem Value) (f : TypeId → Addr → Nat → Nat → Sem Value) (v : Value) :
    ReflectliteValue.method z f #[v] = (do match ← ReflectliteValue.parts v with | none => z | some (t, a, fl) => f t a fl (fl % 32)) := rfl
theorem aPartsP (a : Addr) (w : World) : (ReflectliteValue.parts (.agg #[.pointer (some ⟨1, 108, none⟩), .pointer (some a), .int .u64 150])).run Tryz.prog w = .ok (some (108, a, 150)) w := by kernel_rfl
theorem aIsNilP (a p : Addr) (W : World) (ha : W.cell? a = some (.pointer (some p))) :
    (ReflectliteValue.method (ReflectliteValue.valueError "reflectlite.Value.IsNil" 0) ReflectliteValue.isNil #[.agg #[.pointer (some ⟨1, 108, none⟩), .pointer (some a), .int .u64 150]]).run Tryz.prog W = .ok (.bool false) W := by
  rw [rlm]
  simp only [Sem.run_bind, aPartsP, Result.andThen]
  simp [ReflectliteValue.isNil, loadVar, isAgg, underlying, Tryz.underlying108, ha, Result.andThen]
theorem aMethodElem (h : Value) (w : World) : (Go.method 431 214 (.agg #[h]) "Elem").run Tryz.prog w = .ok (252, .agg #[h]) w := by kernel_rfl
theorem aMethodImplements (h : Value) (w : World) : (Go.method 431 214 (.agg #[h]) "Implements").run Tryz.prog w = .ok (253, .agg #[h]) w := by kernel_rfl
theorem aMethodAssignable (h : Value) (w : World) : (Go.method 431 214 (.agg #[h]) "AssignableTo").run Tryz.prog w = .ok (250, .agg #[h]) w := by kernel_rfl
theorem aMethodUnwrap (h : Value) (w : World) : (Go.method 431 128 h "Unwrap").run Tryz.prog w = .ok (245, h) w := by kernel_rfl
theorem aElem (w : World) : (ReflectliteType.method ReflectliteType.elem #[.agg #[.pointer (some ⟨1, 108, none⟩)]]).run Tryz.prog w = .ok (.iface 214 (.agg #[.pointer (some ⟨1, 44, none⟩)])) w := by kernel_rfl
theorem aImplements (w : World) : (ReflectliteType.relation "Implements" ReflectliteType.implements_ #[.agg #[.pointer (some ⟨1, 44, none⟩)], .iface 214 (.agg #[.pointer (some ⟨1, 31, none⟩)])]).run Tryz.prog w = .ok (.bool true) w := by kernel_rfl
theorem aTypeOfF (v : Value) (w : World) : (ReflectliteType.typeOf #[.iface 128 v]).run Tryz.prog w = .ok (.iface 214 (.agg #[.pointer (some ⟨1, 128, none⟩)])) w := by kernel_rfl
theorem aTypeOfE (v : Value) (w : World) : (ReflectliteType.typeOf #[.iface 44 v]).run Tryz.prog w = .ok (.iface 214 (.agg #[.pointer (some ⟨1, 44, none⟩)])) w := by kernel_rfl
theorem aAssignF (w : World) : (ReflectliteType.relation "AssignableTo" ReflectliteType.assignableTo #[.agg #[.pointer (some ⟨1, 128, none⟩)], .iface 214 (.agg #[.pointer (some ⟨1, 44, none⟩)])]).run Tryz.prog w = .ok (.bool false) w := by kernel_rfl
theorem aAssignE (w : World) : (ReflectliteType.relation "AssignableTo" ReflectliteType.assignableTo #[.agg #[.pointer (some ⟨1, 44, none⟩)], .iface 214 (.agg #[.pointer (some ⟨1, 44, none⟩)])]).run Tryz.prog w = .ok (.bool true) w := by kernel_rfl
theorem aValueE (e : Int) (w : World) : (ReflectliteValue.unpack (.iface 44 (.int .i64 e))).run Tryz.prog w
    = .ok (.agg #[.pointer (some ⟨1, 44, none⟩), .pointer (some ⟨w.heap.size, 0, none⟩), .int .u64 130]) (w.alloc (.cells #[.int .i64 e] 44)) := by kernel_rfl
theorem aElemOf (w : World) : (Rtype.elem? 108).run Tryz.prog w = .ok (some 44) w := by kernel_rfl
theorem aMkE (p : Addr) (w : World) : (ReflectliteValue.mk 44 p ReflectliteValue.flagAddr).run Tryz.prog w = .ok (.agg #[.pointer (some ⟨1, 44, none⟩), .pointer (some p), .int .u64 386]) w := by kernel_rfl
theorem aElemV (a p : Addr) (W : World) (ha : W.cell? a = some (.pointer (some p))) :
    (ReflectliteValue.method (ReflectliteValue.valueError "reflectlite.Value.Elem" 0) ReflectliteValue.elem #[.agg #[.pointer (some ⟨1, 108, none⟩), .pointer (some a), .int .u64 150]]).run Tryz.prog W
      = .ok (.agg #[.pointer (some ⟨1, 44, none⟩), .pointer (some p), .int .u64 386]) W := by
  rw [rlm]
  simp only [Sem.run_bind, aPartsP, Result.andThen]
  simp [ReflectliteValue.elem, loadVar, isAgg, underlying, Tryz.underlying108, ha, Result.andThen, aElemOf, aMkE]
theorem rls (v x : Value) : ReflectliteValue.set #[v, x] = (do
    let (some (dst, a, fl), some (src, b, _)) := (← ReflectliteValue.parts v, ← ReflectliteValue.parts x)
      | unsupported (.noEntry "extern/(internal/reflectlite.Value).Set.zeroValue")
    if fl / ReflectliteValue.flagAddr % 2 == 0 then unsupported (.noEntry "extern/(internal/reflectlite.Value).Set.unaddressable")
    let val ← loadVar src b
    if ← Rtype.directlyAssignable dst src then storeVar dst a val
    else if ← Rtype.implements dst src then
      if (← Rtype.kind src) == 20 then
        match val with
        | .nilIface => unsupported (.noEntry "extern/reflectlite: a nil value of one interface type handed on as a value of another")
        | _ => storeVar dst a val
      else storeVar dst a (.iface src val)
    else panicString ("reflectlite.Set: value of type " ++ (← Rtype.spelt src) ++ " is not assignable to type " ++ (← Rtype.spelt dst))
    pure (.tuple #[])) := rfl
theorem aPartsEa (a : Addr) (w : World) : (ReflectliteValue.parts (.agg #[.pointer (some ⟨1, 44, none⟩), .pointer (some a), .int .u64 386])).run Tryz.prog w = .ok (some (44, a, 386)) w := by kernel_rfl
theorem aPartsE (a : Addr) (w : World) : (ReflectliteValue.parts (.agg #[.pointer (some ⟨1, 44, none⟩), .pointer (some a), .int .u64 130])).run Tryz.prog w = .ok (some (44, a, 130)) w := by kernel_rfl
theorem aDirect (w : World) : (Rtype.directlyAssignable 44 44).run Tryz.prog w = .ok true w := by kernel_rfl
theorem aSet (ta b : Addr) (e : Int) (old : Value) (W : World) (hb : W.cell? b = some (.int .i64 e)) (ht : W.cell? ta = some old) (hf : W.frozen? ta = false) :
    (ReflectliteValue.set #[.agg #[.pointer (some ⟨1, 44, none⟩), .pointer (some ta), .int .u64 386], .agg #[.pointer (some ⟨1, 44, none⟩), .pointer (some b), .int .u64 130]]).run Tryz.prog W
      = .ok (.tuple #[]) (W.setCell ta (.int .i64 e)) := by
  rw [rls]
  simp only [Sem.run_bind, aPartsEa, aPartsE, Result.andThen]
  simp [ReflectliteValue.flagAddr, loadVar, isAgg, underlying, Tryz.underlying44, hb, Result.andThen, aDirect, storeVar, Value.cells, storeCells, Addr.add]
  rw [run_store Tryz.prog W ta _ _ (by rfl)]
  simp [ht, hf]
theorem aLacksAs (v : Value) (xT : TypeId) (w : World) : (Instr.typeAssert (.iface 128 v) xT 219 true).run Tryz.prog w = .ok (.tuple #[.nilIface, .bool false]) w := run_typeAssert_lacksB Tryz.underlying219 (by kernel_rfl) (by kernel_rfl) v xT w
theorem aHasUnwrap (v : Value) (xT : TypeId) (w : World) : (Instr.typeAssert (.iface 128 v) xT 222 true).run Tryz.prog w = .ok (.tuple #[.iface 128 v, .bool true]) w := run_typeAssert_hasB Tryz.underlying222 (by kernel_rfl) v xT w

theorem unwrap_any (f e : Nat) (s : ByteArray) (w : World) (h : FaultAt w f s e) :
    Calls Tryz.prog 245 #[.pointer (some ⟨f, 0, none⟩)] w fun v w' => v = .returned (.iface 44 (.int .i64 e)) ∧ w = w' := by
  have c1 := cellOf h 1 rfl
  clear h
  go_enter Tryz.func245, Tryz.ntmps245
  go_wp2
  go_ret
  exact ⟨rfl, rfl⟩

theorem below_cell {w w' : World} {a : Addr} {v : Value} (h : w.cell? a = some v) (hb : Below w.heap.size w w') : w'.cell? a = some v := (hb.cell (World.block_lt_of_cell? w _ h)).trans h

set_option maxHeartbeats 4000000 in
theorem as_fault (f e : Nat) (s : ByteArray) (tb : Nat) (w : World) (hF : FaultAt w f s e) (hg : Glob w) (ht : Blk w tb 44 #[.int .i64 0]) :
    Calls Tryz.prog 63 #[faultV f, .iface 108 (.pointer (some ⟨tb, 0, none⟩))] w fun ev w' => ev = .returned (.bool true) ∧ ∃ w0, Below w.heap.size w w0 ∧ w' = w0.setCell ⟨tb, 0, none⟩ (.int .i64 e) := by
  have h6 := @run_callFunc_extern Tryz.prog 98 _ (fun args => ReflectliteValue.unpack (args.getD 0 (.tuple #[]))) Tryz.func98 (by kernel_rfl) (by kernel_rfl) (by kernel_rfl) (by kernel_rfl)
  have h7 := @run_callFunc_extern Tryz.prog 99 _ (ReflectliteValue.methodAny (ReflectliteValue.valueError "reflectlite.Value.Type" 0) (fun t _ _ _ => ReflectliteType.toType t)) Tryz.func99 (by kernel_rfl) (by kernel_rfl) (by kernel_rfl) (by kernel_rfl)
  have h8 := @run_callFunc_extern Tryz.prog 100 _ (ReflectliteValue.method (ReflectliteValue.valueError "reflectlite.Value.IsNil" 0) ReflectliteValue.isNil) Tryz.func100 (by kernel_rfl) (by kernel_rfl) (by kernel_rfl) (by kernel_rfl)
  have h27 := @run_callFunc_extern Tryz.prog 234 _ (ReflectliteType.abiMethod fun t => do pure (.int .u8 (← Rtype.kind t))) Tryz.func234 (by kernel_rfl) (by kernel_rfl) (by kernel_rfl) (by kernel_rfl)
  have h37 := @run_callFunc_extern Tryz.prog 252 _ (ReflectliteType.method ReflectliteType.elem) Tryz.func252 (by kernel_rfl) (by kernel_rfl) (by kernel_rfl) (by kernel_rfl)
  have h38 := @run_callFunc_extern Tryz.prog 253 _ (ReflectliteType.relation "Implements" ReflectliteType.implements_) Tryz.func253 (by kernel_rfl) (by kernel_rfl) (by kernel_rfl) (by kernel_rfl)
  have h10 := @run_callFunc_extern Tryz.prog 137 _ ReflectliteType.typeOf Tryz.func137 (by kernel_rfl) (by kernel_rfl) (by kernel_rfl) (by kernel_rfl)
  have h35 := @run_callFunc_extern Tryz.prog 250 _ (ReflectliteType.relation "AssignableTo" ReflectliteType.assignableTo) Tryz.func250 (by kernel_rfl) (by kernel_rfl) (by kernel_rfl) (by kernel_rfl)
  have h11 := @run_callFunc_extern Tryz.prog 138 _ (ReflectliteValue.method (ReflectliteValue.valueError "reflectlite.Value.Elem" 0) ReflectliteValue.elem) Tryz.func138 (by kernel_rfl) (by kernel_rfl) (by kernel_rfl) (by kernel_rfl)
  have h12 := @run_callFunc_extern Tryz.prog 139 _ ReflectliteValue.set Tryz.func139 (by kernel_rfl) (by kernel_rfl) (by kernel_rfl) (by kernel_rfl)
  have tF := aTypeOfF
  have tE := aTypeOfE
  have mA := aMethodAssignable
  have mU := aMethodUnwrap
  have aF := aAssignF
  have aE := aAssignE
  have vE := aValueE
  have f6 := aValueP
  have f7 := aTypeP
  have mK := aMethodKind
  have mE := aMethodElem
  have mI := aMethodImplements
  have k27 := aKindP
  have k25 := aKindE
  have e27 := aElem
  have i25 := aImplements
  have la := aLacksAs
  have hu := aHasUnwrap
  obtain ⟨vcells, hvc⟩ : ∃ vc, vc = (#[.pointer (some ⟨1, 108, none⟩), .pointer (some ⟨w.heap.size, 0, none⟩), .int .u64 150] : Array Value) := ⟨_, rfl⟩
  have hlt := hg.pos
  have n8 := aIsNilP ⟨w.heap.size, 0, none⟩ ⟨tb, 0, none⟩ ((w.alloc (.cells #[.pointer (some ⟨tb, 0, none⟩)] 108)).alloc (.cells #[.pointer (some ⟨1, 108, none⟩), .pointer (some ⟨w.heap.size, 0, none⟩), .int .u64 150] 166)) (by simp)
  have hg2 := (hg.alloc (.cells #[.pointer (some ⟨tb, 0, none⟩)] 108)).alloc (.cells #[.pointer (some ⟨1, 108, none⟩), .pointer (some ⟨w.heap.size, 0, none⟩), .int .u64 150] 166)
  unfold Glob at hg2
  obtain ⟨W3, hW3⟩ : ∃ W3, W3 = (((w.alloc (.cells #[.pointer (some ⟨tb, 0, none⟩)] 108)).alloc (.cells #[.pointer (some ⟨1, 108, none⟩), .pointer (some ⟨w.heap.size, 0, none⟩), .int .u64 150] 166)).alloc (.cells #[.pointer (some ⟨1, 108, none⟩), .pointer (some ⟨w.heap.size, 0, none⟩), .int .u64 150] 166)) := ⟨_, rfl⟩
  have hb3 : Below w.heap.size w W3 := by rw [hW3]; exact (((Below.refl _ _).alloc (Nat.le_refl _) _).alloc (by simp) _).alloc (by simp; omega) _
  have hs3 : W3.heap.size = w.heap.size + 1 + 1 + 1 := by rw [hW3]; simp
  have hF3 : FaultAt W3 f s e := hF.below hb3 hF.lt
  have ht3 := ht.below hb3 ht.lt
  have hv3 : W3.cell? ⟨w.heap.size, 0, none⟩ = some (.pointer (some ⟨tb, 0, none⟩)) := by rw [hW3]; exact cellA _ (cellA _ (cellOf (Blk.new w _ _) 0 rfl))
  have el := aElemV ⟨w.heap.size, 0, none⟩ ⟨tb, 0, none⟩ W3 hv3
  have st := aSet ⟨tb, 0, none⟩ ⟨W3.heap.size, 0, none⟩ e (.int .i64 0) (W3.alloc (.cells #[.int .i64 e] 44)) (by simp) (cellOf (ht3.alloc _) 0 rfl) ((ht3.alloc _).frozen 0)
  have HF := hide hF3
  rw [hs3] at st
  have HB := hide (hb3.alloc (by rw [hs3]; omega) (.cells #[.int .i64 e] 44))
  have HU := hide (unwrap_any f e s W3 hF3)
  have hFs := hF
  clear hF hg ht hFs hF3 ht3 hb3 hlt hvc
  rw [hW3] at el st HU HB hv3
  unfold faultV
  go_enter Tryz.func63, Tryz.ntmps63
  go_wp2_with (first | (go_at_call 101; go_in) | (go_at_call 245; refine HU.out.mono ?_; rintro v w' ⟨rfl, rfl⟩))
  refine wp_loop_rounds 2 ?_
  rw [rounds_succ]
  go_wp2_with (first | (go_at_call 245; refine HU.out.mono ?_; rintro v w' ⟨rfl, rfl⟩))
  rw [rounds_succ]
  go_wp2
  go_ret
  exact ⟨rfl, _, HB.out, rfl⟩
end Go.Proofs.YtemondlgcmpbbaaGreatDoor
