/- Walks: disk.Open, where no head is there, or the newest tree is empty. -/
import Derived.Test.YtemondlgcmpbbaaGreatDoorFa
namespace Go.Proofs.YtemondlgcmpbbaaGreatDoor
open Go.RowKit

/-- An error of one number, of an operation. -/
def FaultAt (w : World) (f : Nat) (s : ByteArray) (e : Nat) : Prop := Blk w f 130 #[.string s, .iface 44 (.int .i64 e)]
def faultV (f : Nat) : Value := .iface 128 (.pointer (some ⟨f, 0, none⟩))
def sOpen : ByteArray := ⟨#[111, 112, 101, 110]⟩

theorem size_tree : (Tryz.prog.info? 88).map (·.size) = some [Value.pointer none, .int .i64 0].length := by kernel_rfl
theorem two_cells : ∀ v ∈ [Value.pointer none, .int .i64 0], v.oneCell' = true := by intro v hv; simp at hv; rcases hv with rfl | rfl <;> rfl

set_option maxRecDepth 100000 in
set_option maxHeartbeats 2000000 in
theorem dopen_none (K b g base n : Nat) (cv : Value) (m : Nums) (bytes : List UInt8) (cache : List (Nat × List UInt8)) (w : World) (h : Dk w K b g base n cv m bytes cache) (hc : m.calm) (hn : 8 ≤ n) (hK : K + 5 < edge) (hh : headsN (dread bytes cache) = []) :
    Calls Tryz.prog 104 #[.iface 23 (.pointer (some ⟨b, 0, none⟩))] w fun e w' => ∃ f, e = .returned (.tuple #[.pointer none, .agg #[.pointer none, .int .i64 0], faultV f]) ∧ FaultAt w' f sOpen 9 ∧ w.heap.size ≤ f ∧ Dk w' (K + 2) b g base n cv (ticks m 2) bytes cache ∧ Only (fun x => x = b) w w' := by
  have hmf : ∀ (fn : Fn) (first cap : Array Value) (w : World), (Instr.makeFunc fn first cap).run Tryz.prog w = .ok (.func fn first cap) w := fun _ _ _ _ => rfl
  have H := hide h
  have H3 := hide (h.below ((((Below.refl _ _).alloc (Nat.le_refl _) (Obj.cells #[.pointer none, .int .i64 0] 88)).alloc (by simp) (Obj.cells #[.nilIface] 31)).alloc (by simp; omega) (Obj.cells #[.iface 23 (.pointer (some ⟨b, 0, none⟩))] 147)))
  have HR := hide (heads_up K b g base n cv m bytes cache _ H3.out hc hn (by omega))
  rw [hh] at HR
  unfold vol at HR
  clear h hc hh
  go_enter_defers Tryz.func104, Tryz.ntmps104
  go_wp2_with fail
  refine HR.out.mono ?_
  rintro e w1 ⟨v, rfl, hown, hd1, ho1⟩
  obtain ⟨A, c, rfl, hlc, hcm, hrow, hno⟩ := ownN_form hown
  have hz : w.heap.size + 1 + 1 + 1 ≤ w1.heap.size := by have := ho1.size; simpa only [World.size_alloc] using this
  have hbl : b < w.heap.size := H.out.at_.lt
  have e0 : Blk w1 w.heap.size 88 #[.pointer none, .int .i64 0] := ho1.blk (((Blk.new w _ _).alloc _).alloc _) (by omega)
  have e1 : Blk w1 (w.heap.size + 1) 31 #[.nilIface] := ho1.blk ((Blk.new2 w _ _ _).alloc _) (by omega)
  have hoW : Only (fun x => x = b) w w1 := Only.trans ((((Only.refl _ _).alloc _).alloc _).alloc _) ho1
  have c0 := cellOf e0 0 rfl
  have c1 := cellOf e0 1 rfl
  have c2 := cellOf e1 0 rfl
  have f0 : w1.frozen? ⟨w.heap.size, 0, none⟩ = false := e0.frozen 0
  have f1 : w1.frozen? ⟨w.heap.size, 1, none⟩ = false := e0.frozen 1
  have f2 : w1.frozen? ⟨w.heap.size + 1, 0, none⟩ = false := e1.frozen 0
  have c0' := fun o => cellA o c0
  have c1' := fun o => cellA o c1
  have c2' := fun o => cellA o c2
  have f0' : ∀ o, (w1.alloc o).frozen? ⟨w.heap.size, 0, none⟩ = false := fun o => (e0.alloc o).frozen 0
  have f1' : ∀ o, (w1.alloc o).frozen? ⟨w.heap.size, 1, none⟩ = false := fun o => (e0.alloc o).frozen 1
  have f2' : ∀ o, (w1.alloc o).frozen? ⟨w.heap.size + 1, 0, none⟩ = false := fun o => (e1.alloc o).frozen 0
  have HD1 := hide hd1
  have HO1 := hide hoW
  have HE0 := hide e0
  have HE1 := hide e1
  clear hd1 ho1 hoW e0 e1 hrow hno hown hmf
  go_wp2
  refine wp_loop_rounds 1 ?_
  rw [rounds_succ]
  go_wp2
  refine leaves_cons (f := 142) (args := #[.pointer (some ⟨w.heap.size + 1, 0, none⟩)]) (by simp) (by simp [go_sem]) ?_
  refine (openD ⟨w.heap.size + 1, 0, none⟩ _).mono ?_
  rintro e u' w7 ⟨rfl, rfl, rfl⟩
  have k0 := ((HE0.out.alloc (.cells #[.string sOpen, .iface 44 (.int .i64 9)] 130)).set_ 0 (.pointer none)).set_ 1 (.int .i64 0)
  have k1 := (((HE1.out.alloc (.cells #[.string sOpen, .iface 44 (.int .i64 9)] 130)).only (Only.set1 _ w.heap.size 0 (.pointer none)) (by simp)).only (Only.set1 _ w.heap.size 1 (.int .i64 0)) (by simp)).set_ 0 (faultV w1.heap.size)
  have k0 := k0.only (Only.set1 _ (w.heap.size + 1) 0 (faultV w1.heap.size)) (by simp)
  have r0 := cellOf k0 0 rfl
  have r1 := cellOf k0 1 rfl
  have r2 := cellOf k1 0 rfl
  simp only [faultV, sOpen] at r0 r1 r2
  refine ⟨.tuple #[.pointer none, .agg #[.pointer none, .int .i64 0], faultV w1.heap.size], by simp [results, Tryz.results104, go_sem, r0, r1, r2, faultV], ?_⟩
  have kF : Blk (w1.alloc (.cells #[.string sOpen, .iface 44 (.int .i64 9)] 130)) w1.heap.size 130 #[.string sOpen, .iface 44 (.int .i64 9)] := Blk.new ..
  have p1 := (kF.only (Only.set1 _ w.heap.size 0 (.pointer none)) (by omega)).only (Only.set1 _ w.heap.size 1 (.int .i64 0)) (by omega)
  have p2 := p1.only (Only.set1 _ (w.heap.size + 1) 0 (faultV w1.heap.size)) (by omega)
  have o1 := HO1.out.alloc (.cells #[.string sOpen, .iface 44 (.int .i64 9)] 130)
  have o2 := ((o1.setCell (p := ⟨w.heap.size, 0, none⟩) (.inr (Nat.le_refl _)) (.pointer none)).setCell (p := ⟨w.heap.size, 1, none⟩) (.inr (Nat.le_refl _)) (.int .i64 0)).setCell (p := ⟨w.heap.size + 1, 0, none⟩) (.inr (by simp)) (faultV w1.heap.size)
  refine ⟨w1.heap.size, rfl, p2, by omega, ?_, o2⟩
  have d1 := HD1.out.below ((Below.refl _ _).alloc (Nat.le_refl _) (.cells #[.string sOpen, .iface 44 (.int .i64 9)] 130))
  have hlt : ∀ x, dfp b g cv x → x < w.heap.size := fun x hx => H.out.lt hx
  have d2 := (d1.only (Only.set1 _ w.heap.size 0 (.pointer none)) fun x hx e => by have := hlt x hx; omega).only (Only.set1 _ w.heap.size 1 (.int .i64 0)) fun x hx e => by have := hlt x hx; omega
  exact d2.only (Only.set1 _ (w.heap.size + 1) 0 (faultV w1.heap.size)) fun x hx e => by have := hlt x hx; omega

set_option maxRecDepth 100000 in
set_option maxHeartbeats 2000000 in
theorem dopen_zero (K b g base n : Nat) (m : Nums) (bytes : List UInt8) (cache : List (Nat × List UInt8)) (cv : Value) (w : World) (h : Dk w K b g base n cv m bytes cache) (hc : m.calm) (hn : 8 ≤ n) (hK : K + 5 < edge) (hd : Hd) (tl : List Hd) (hh : headsN (dread bytes cache) = hd :: tl) (hz0 : hd.blk = 0) :
    Calls Tryz.prog 104 #[.iface 23 (.pointer (some ⟨b, 0, none⟩))] w fun e w' => ∃ f, e = .returned (.tuple #[.pointer (some ⟨f, 0, none⟩), .agg #[.pointer none, .int .i64 0], .nilIface]) ∧ Blk w' f 151 (#[.iface 23 (.pointer (some ⟨b, 0, none⟩))] ++ hd.cells) ∧ w.heap.size ≤ f ∧ Dk w' (K + 3) b g base n (.slice none 0 0) (ticks m 3) (dflush bytes cache) [] ∧ Only (fun x => x = b ∨ x = g) w w' := by
  have hmf : ∀ (fn : Fn) (first cap : Array Value) (w : World), (Instr.makeFunc fn first cap).run Tryz.prog w = .ok (.func fn first cap) w := fun _ _ _ _ => rfl
  have hmm := @run_makeMap Tryz.prog
  have H := hide h
  have HC := hide hc
  have hmem : hd.slot < 2 ∧ hd.gen < 1073741824 ∧ 0 < hd.gen := headUp_slot _ 2 hd (headsN_mem _ hd (hh ▸ List.mem_cons_self ..))
  have HMEM := hide hmem
  have H3 := hide (h.below ((((Below.refl _ _).alloc (Nat.le_refl _) (Obj.cells #[.pointer none, .int .i64 0] 88)).alloc (by simp) (Obj.cells #[.nilIface] 31)).alloc (by simp; omega) (Obj.cells #[.iface 23 (.pointer (some ⟨b, 0, none⟩))] 147)))
  have HR := hide (heads_up K b g base n cv m bytes cache _ H3.out hc hn (by omega))
  rw [hh] at HR
  unfold vol at HR
  clear h hc hh hmem
  go_enter_defers Tryz.func104, Tryz.ntmps104
  go_wp2_with fail
  refine HR.out.mono ?_
  rintro e w1 ⟨v, rfl, hown, hd1, ho1⟩
  obtain ⟨A, c, rfl, hlc, hcm, hrow, hno⟩ := ownN_form hown
  have hz : w.heap.size + 1 + 1 + 1 ≤ w1.heap.size := by have := ho1.size; simpa only [World.size_alloc] using this
  have hbl : b < w.heap.size := H.out.at_.lt
  have e0 : Blk w1 w.heap.size 88 #[.pointer none, .int .i64 0] := ho1.blk (((Blk.new w _ _).alloc _).alloc _) (by omega)
  have e1 : Blk w1 (w.heap.size + 1) 31 #[.nilIface] := ho1.blk ((Blk.new2 w _ _ _).alloc _) (by omega)
  have e2 : Blk w1 (w.heap.size + 1 + 1) 147 #[.iface 23 (.pointer (some ⟨b, 0, none⟩))] := ho1.blk (by have := Blk.new2 (w.alloc (Obj.cells #[.pointer none, .int .i64 0] 88)) (Obj.cells #[.nilIface] 31) 147 #[.iface 23 (.pointer (some ⟨b, 0, none⟩))]; rwa [World.size_alloc] at this) (by omega)
  have hoW : Only (fun x => x = b) w w1 := Only.trans ((((Only.refl _ _).alloc _).alloc _).alloc _) ho1
  obtain ⟨gl, cur, rfl, hcur, htk⟩ : ∃ gl cur, A = some ⟨gl, 0, none⟩ ∧ Blk w1 gl 149 cur ∧ cur.toList.take ((hd :: tl).length * 4) = hcells (hd :: tl) := by
    cases A with
    | none => have := (hno rfl).1; simp at this
    | some a =>
      obtain ⟨_, _, e, cur, hb, _, ht⟩ := hrow a.block rfl
      exact ⟨a.block, cur, e, hb, ht⟩
  have cell : ∀ j v, (hcells (hd :: tl))[j]? = some v → w1.cell? ⟨gl, j, none⟩ = some v := fun j v hv => by
    rw [hcur.cell, ← Array.getElem?_toList]
    rw [← htk, List.getElem?_take] at hv
    split at hv
    · exact hv
    · cases hv
  have c0 : w1.cell? ⟨gl, 0, none⟩ = some (.int .i64 hd.slot) := cell 0 _ rfl
  have c1 : w1.cell? ⟨gl, 1, none⟩ = some (.int .u32 hd.gen) := cell 1 _ rfl
  have c2 : w1.cell? ⟨gl, 2, none⟩ = some (.int .i64 hd.blk) := cell 2 _ rfl
  have c3 : w1.cell? ⟨gl, 3, none⟩ = some (.int .u32 hd.rgen) := cell 3 _ rfl
  have l0 : (0 : Int) < ((tl.length : Int) + 1) := by omega
  have lb : decide (0 < (hd :: tl).length) = true := by simp
  have lb2 : 0 < (hd :: tl).length := by simp
  have lb3 : decide ((0 : Int) < ((tl.length : Int) + 1)) = true := by simp
  have v0 := cellOf e2 0 rfl
  have v0' := fun o => cellA o v0
  have v0'' := fun o o1 o2 => cellA o2 (cellA o1 (cellA o v0))
  have t0'' := fun o o1 o2 => cellA o2 (cellA o1 (cellA o (cellOf e0 0 rfl)))
  have t1'' := fun o o1 o2 => cellA o2 (cellA o1 (cellA o (cellOf e0 1 rfl)))
  have f0'' : ∀ o o1 o2, (((w1.alloc o).alloc o1).alloc o2).frozen? ⟨w.heap.size, 0, none⟩ = false := fun o o1 o2 => (((e0.alloc o).alloc o1).alloc o2).frozen 0
  have f1'' : ∀ o o1 o2, (((w1.alloc o).alloc o1).alloc o2).frozen? ⟨w.heap.size, 1, none⟩ = false := fun o o1 o2 => (((e0.alloc o).alloc o1).alloc o2).frozen 1
  have HD1 := hide hd1
  have HO1 := hide hoW
  have HE0 := hide e0
  have HE1 := hide e1
  have HE2 := hide e2
  rw [hz0] at c2
  clear hd1 ho1 hoW e0 e1 e2 hrow hno hown cell htk
  go_wp2
  refine wp_loop_rounds 1 ?_
  rw [rounds_succ]
  go_wp2_with fail
  have HB3 := hide (show Below w1.heap.size w1 (((w1.alloc (.cells #[.int .i64 hd.slot, .int .u32 hd.gen, .int .i64 0, .int .u32 hd.rgen] 149)).alloc (.map #[] 0)).alloc (.cells #[.iface 23 (.pointer (some ⟨b, 0, none⟩)), .int .u32 hd.gen, .map (some (w1.heap.size + 1)), .int .i64 0] 231)) from (((Below.refl _ _).alloc (Nat.le_refl _) _).alloc (by simp) _).alloc (by simp; omega) _)
  have HO3 := hide (show Only (fun x => x = w.heap.size) w1 ((((w1.alloc (.cells #[.int .i64 hd.slot, .int .u32 hd.gen, .int .i64 0, .int .u32 hd.rgen] 149)).alloc (.map #[] 0)).alloc (.cells #[.iface 23 (.pointer (some ⟨b, 0, none⟩)), .int .u32 hd.gen, .map (some (w1.heap.size + 1)), .int .i64 0] 231)).setCell ⟨w.heap.size, 1, none⟩ (.int .i64 0)) from Only.setCell (fp := fun x => x = w.heap.size) (p := ⟨w.heap.size, 1, none⟩) (Only.of_below HB3.out) (.inl rfl) _)
  have h3e : Blk ((((w1.alloc (.cells #[.int .i64 hd.slot, .int .u32 hd.gen, .int .i64 0, .int .u32 hd.rgen] 149)).alloc (.map #[] 0)).alloc (.cells #[.iface 23 (.pointer (some ⟨b, 0, none⟩)), .int .u32 hd.gen, .map (some (w1.heap.size + 1)), .int .i64 0] 231)).setCell ⟨w.heap.size, 1, none⟩ (.int .i64 0)) w.heap.size 88 #[.pointer none, .int .i64 0] := (HE0.out.below HB3.out HE0.out.lt).set_ 1 (.int .i64 0)
  have h3h : Blk ((((w1.alloc (.cells #[.int .i64 hd.slot, .int .u32 hd.gen, .int .i64 0, .int .u32 hd.rgen] 149)).alloc (.map #[] 0)).alloc (.cells #[.iface 23 (.pointer (some ⟨b, 0, none⟩)), .int .u32 hd.gen, .map (some (w1.heap.size + 1)), .int .i64 0] 231)).setCell ⟨w.heap.size, 1, none⟩ (.int .i64 0)) w1.heap.size 149 #[.int .i64 hd.slot, .int .u32 hd.gen, .int .i64 0, .int .u32 hd.rgen] := ((((Blk.new w1 _ _).alloc _).alloc _)).only (Only.set1 _ w.heap.size 1 (.int .i64 0)) (by omega)
  have hd3 := HD1.out.only HO3.out (fun x hx e => by have := H.out.lt hx; omega)
  refine (vflush_any (K + 2) b g base n cv (ticks m 2) bytes cache _ hd3 (ticks_calm HC.out 2).bad (by omega)).mono ?_
  rintro e w4 ⟨rfl, hd4, ho4⟩
  have hz4 : w1.heap.size + 1 + 1 + 1 ≤ w4.heap.size := by have := ho4.size; simpa using this
  have hgl : g < w.heap.size := H.out.blk.lt
  have i0 := h3e.only ho4 (by omega)
  have i1 := (HE1.out.only HO3.out (by omega)).only ho4 (by omega)
  have i2 := (HE2.out.only HO3.out (by omega)).only ho4 (by omega)
  have i3 := h3h.only ho4 (by omega)
  have ho5 := (HO1.out.mono (fq := fun x => x = b ∨ x = g) (fun x _ h => .inl h)).trans' ((HO3.out.mono (fq := fun x => x = b ∨ x = g ∨ x = w.heap.size) (fun x _ h => .inr (.inr h))).trans (ho4.mono (fq := fun x => x = b ∨ x = g ∨ x = w.heap.size) (fun x _ h => h.imp id .inl))) (fun x hx h => by rcases h with h | h | h <;> omega)
  have d0 := cellOf i0 0 rfl
  have d1 := cellOf i0 1 rfl
  have d2 := cellOf i1 0 rfl
  have d3 := cellOf i2 0 rfl
  have d4 := cellOf i3 0 rfl
  have d5 := cellOf i3 1 rfl
  have d6 := cellOf i3 2 rfl
  have d7 := cellOf i3 3 rfl
  have f4 : w4.frozen? ⟨w.heap.size, 0, none⟩ = false := i0.frozen 0
  have f5 : w4.frozen? ⟨w.heap.size, 1, none⟩ = false := i0.frozen 1
  have f6 : w4.frozen? ⟨w.heap.size + 1, 0, none⟩ = false := i1.frozen 0
  have HD4 := hide hd4
  have HO4 := hide ho5
  have HI0 := hide i0
  have HI1 := hide i1
  clear hd3 hd4 ho4 i0 i1 i2 i3 ho5 hcur c0 c1 c2 c3 v0 v0' v0'' t0'' t1'' f0'' f1'' h3e h3h l0 lb lb2 lb3
  go_upto_region 13 with fail
  refine wp_region_noPanic ?_
  refine wp_region_held_drew (S := fun w' => w'.cell? ⟨w.heap.size + 1 + 1, 0, none⟩ = some (.iface 23 (.pointer (some ⟨b, 0, none⟩))) ∧ w'.cell? ⟨w1.heap.size, 0, none⟩ = some (.int .i64 hd.slot) ∧ w'.cell? ⟨w1.heap.size, 1, none⟩ = some (.int .u32 hd.gen) ∧ w'.cell? ⟨w1.heap.size, 2, none⟩ = some (.int .i64 0) ∧ w'.cell? ⟨w1.heap.size, 3, none⟩ = some (.int .u32 hd.rgen) ∧ w'.cell? ⟨w.heap.size, 0, none⟩ = some (.pointer none) ∧ w'.cell? ⟨w.heap.size, 1, none⟩ = some (.int .i64 0)) (by kernel_rfl) ⟨d3, d4, d5, d6, d7, d0, d1⟩ ?_
  intro hS0
  refine wpAnyH_takeD (i := 0) (v := (.agg #[.iface 23 (.pointer (some ⟨b, 0, none⟩))])) (some 46) rfl rfl (by kernel_rfl) (by kernel_rfl) (by kernel_rfl) (fun _ _ _ h => h) (Or.inl ⟨rfl, fun w' hSw => by have s1 := hSw.1; clear hSw; go_simp⟩) hS0 ?_
  simp only [Act.put, List.setIfInBounds_toArray, List.set_cons_zero, List.set_cons_succ]
  refine wpAnyH_takeD (i := 1) (v := (.agg #[.int .i64 hd.slot, .int .u32 hd.gen, .int .i64 0, .int .u32 hd.rgen])) (some 47) rfl rfl (by kernel_rfl) (by kernel_rfl) (by kernel_rfl) (fun _ _ _ h => h) (Or.inl ⟨rfl, fun w' hSw => by obtain ⟨_, s1, s2, s3, s4, _⟩ := hSw; go_simp⟩) hS0 ?_
  simp only [Act.put, List.setIfInBounds_toArray, List.set_cons_zero, List.set_cons_succ]
  refine wpAnyH_takeD (i := 2) (v := (.agg #[.iface 23 (.pointer (some ⟨b, 0, none⟩)), .int .i64 hd.slot, .int .u32 hd.gen, .int .i64 0, .int .u32 hd.rgen])) (some 48) rfl rfl (by kernel_rfl) (by kernel_rfl) (by kernel_rfl) (fun _ _ _ h => h) (Or.inl ⟨rfl, fun w' hSw => by clear hSw; go_simp⟩) hS0 ?_
  simp only [Act.put, List.setIfInBounds_toArray, List.set_cons_zero, List.set_cons_succ]
  refine wpAnyH_takeD (i := 4) (v := (.agg #[.pointer none, .int .i64 0])) (some 50) rfl rfl (by kernel_rfl) (by kernel_rfl) (by kernel_rfl) (fun _ _ _ h => h) (Or.inl ⟨rfl, fun w' hSw => by obtain ⟨_, _, _, _, _, s1, s2⟩ := hSw; go_simp⟩) hS0 ?_
  simp only [Act.put, List.setIfInBounds_toArray, List.set_cons_zero, List.set_cons_succ]
  refine wpAnyH_one (i := 3) (by kernel_rfl) rfl rfl ?_
  go_simp
  have hS0 : (w4.alloc (.cells #[.iface 23 (.pointer (some ⟨b, 0, none⟩)), .int .i64 hd.slot, .int .u32 hd.gen, .int .i64 0, .int .u32 hd.rgen] 151)).drew.cell? ⟨w.heap.size + 1 + 1, 0, none⟩ = some (.iface 23 (.pointer (some ⟨b, 0, none⟩))) ∧ (w4.alloc (.cells #[.iface 23 (.pointer (some ⟨b, 0, none⟩)), .int .i64 hd.slot, .int .u32 hd.gen, .int .i64 0, .int .u32 hd.rgen] 151)).drew.cell? ⟨w1.heap.size, 0, none⟩ = some (.int .i64 hd.slot) ∧ (w4.alloc (.cells #[.iface 23 (.pointer (some ⟨b, 0, none⟩)), .int .i64 hd.slot, .int .u32 hd.gen, .int .i64 0, .int .u32 hd.rgen] 151)).drew.cell? ⟨w1.heap.size, 1, none⟩ = some (.int .u32 hd.gen) ∧ (w4.alloc (.cells #[.iface 23 (.pointer (some ⟨b, 0, none⟩)), .int .i64 hd.slot, .int .u32 hd.gen, .int .i64 0, .int .u32 hd.rgen] 151)).drew.cell? ⟨w1.heap.size, 2, none⟩ = some (.int .i64 0) ∧ (w4.alloc (.cells #[.iface 23 (.pointer (some ⟨b, 0, none⟩)), .int .i64 hd.slot, .int .u32 hd.gen, .int .i64 0, .int .u32 hd.rgen] 151)).drew.cell? ⟨w1.heap.size, 3, none⟩ = some (.int .u32 hd.rgen) ∧ (w4.alloc (.cells #[.iface 23 (.pointer (some ⟨b, 0, none⟩)), .int .i64 hd.slot, .int .u32 hd.gen, .int .i64 0, .int .u32 hd.rgen] 151)).drew.cell? ⟨w.heap.size, 0, none⟩ = some (.pointer none) ∧ (w4.alloc (.cells #[.iface 23 (.pointer (some ⟨b, 0, none⟩)), .int .i64 hd.slot, .int .u32 hd.gen, .int .i64 0, .int .u32 hd.rgen] 151)).drew.cell? ⟨w.heap.size, 1, none⟩ = some (.int .i64 0) := ⟨cellA _ d3, cellA _ d4, cellA _ d5, cellA _ d6, cellA _ d7, cellA _ d0, cellA _ d1⟩
  refine ⟨hS0, ?_⟩
  refine wpAnyH_takeD (i := 5) (v := (.pointer (some ⟨w4.heap.size, 0, none⟩))) (some 2) rfl rfl (by kernel_rfl) (by kernel_rfl) (by kernel_rfl) (fun _ _ _ h => h) (Or.inl ⟨rfl, fun w' hSw => by clear hSw; go_simp⟩) hS0 ?_
  simp only [Act.put, List.setIfInBounds_toArray, List.set_cons_zero, List.set_cons_succ]
  have j0 := HI0.out.alloc (.cells #[.iface 23 (.pointer (some ⟨b, 0, none⟩)), .int .i64 hd.slot, .int .u32 hd.gen, .int .i64 0, .int .u32 hd.rgen] 151)
  have j1 := HI1.out.alloc (.cells #[.iface 23 (.pointer (some ⟨b, 0, none⟩)), .int .i64 hd.slot, .int .u32 hd.gen, .int .i64 0, .int .u32 hd.rgen] 151)
  refine wpAnyH_one (i := 6) (by kernel_rfl) rfl rfl ?_
  refine wp_store_sz 88 (.tmp 3) (.tmp 50) rfl w.heap.size 0 [.pointer none, .int .i64 0] rfl rfl 88 [.pointer none, .int .i64 0] j0.drew (Nat.le_refl _) size_tree two_cells ?_
  intro w5 hb5 hg5 hs5
  have hO5 : Only (fun x => x = w.heap.size) w4 w5 := Only.grown (((Only.refl _ _).alloc (.cells #[.iface 23 (.pointer (some ⟨b, 0, none⟩)), .int .i64 hd.slot, .int .u32 hd.gen, .int .i64 0, .int .u32 hd.rgen] 151)).drew) hg5 fun g' e => .inl (by injection e with e; exact e.symm)
  have hb5 : Blk w5 w.heap.size 88 #[.pointer none, .int .i64 0] := by rw [spl_all (L := [.pointer none, .int .i64 0]) (cs := [.pointer none, .int .i64 0]) rfl] at hb5; exact hb5
  have hD5 : Blk w5 w4.heap.size 151 #[.iface 23 (.pointer (some ⟨b, 0, none⟩)), .int .i64 hd.slot, .int .u32 hd.gen, .int .i64 0, .int .u32 hd.rgen] := (Blk.new w4 _ _).drew.grown hg5 (fun e => by injection e; omega)
  have q3 := (hO5.cell (p := ⟨w.heap.size + 1 + 1, 0, none⟩) (show w.heap.size + 1 + 1 < w4.heap.size by omega) (show ¬ (w.heap.size + 1 + 1 = w.heap.size) by omega)).trans d3
  have q4 := (hO5.cell (p := ⟨w1.heap.size, 0, none⟩) (show w1.heap.size < w4.heap.size by omega) (show ¬ (w1.heap.size = w.heap.size) by omega)).trans d4
  have q5 := (hO5.cell (p := ⟨w1.heap.size, 1, none⟩) (show w1.heap.size < w4.heap.size by omega) (show ¬ (w1.heap.size = w.heap.size) by omega)).trans d5
  have q6 := (hO5.cell (p := ⟨w1.heap.size, 2, none⟩) (show w1.heap.size < w4.heap.size by omega) (show ¬ (w1.heap.size = w.heap.size) by omega)).trans d6
  have q7 := (hO5.cell (p := ⟨w1.heap.size, 3, none⟩) (show w1.heap.size < w4.heap.size by omega) (show ¬ (w1.heap.size = w.heap.size) by omega)).trans d7
  have q0 := cellOf hb5 0 rfl
  have q1 := cellOf hb5 1 rfl
  have hS0 : w5.cell? ⟨w.heap.size + 1 + 1, 0, none⟩ = some (.iface 23 (.pointer (some ⟨b, 0, none⟩))) ∧ w5.cell? ⟨w1.heap.size, 0, none⟩ = some (.int .i64 hd.slot) ∧ w5.cell? ⟨w1.heap.size, 1, none⟩ = some (.int .u32 hd.gen) ∧ w5.cell? ⟨w1.heap.size, 2, none⟩ = some (.int .i64 0) ∧ w5.cell? ⟨w1.heap.size, 3, none⟩ = some (.int .u32 hd.rgen) ∧ w5.cell? ⟨w.heap.size, 0, none⟩ = some (.pointer none) ∧ w5.cell? ⟨w.heap.size, 1, none⟩ = some (.int .i64 0) := ⟨q3, q4, q5, q6, q7, q0, q1⟩
  refine ⟨hS0, ?_⟩
  change wpAnyH _ _ _ _ _ _ _ (Act.put _ none undef) _
  simp only [Act.put]
  have j1 : Blk w5 (w.heap.size + 1) 31 #[.nilIface] := (HI1.out).only hO5 (by omega)
  have k4 : w5.frozen? ⟨w.heap.size + 1, 0, none⟩ = false := j1.frozen 0
  have k5 := cellOf j1 0 rfl
  refine wpAnyH_one (i := 7) (by kernel_rfl) rfl rfl ?_
  go_simp
  refine wpAnyH_done (by kernel_rfl) ?_ _
  refine NoPanic.normal ?_
  have HD5 := hide hD5
  have HJ0 := hide hb5
  have HJ1 := hide j1
  have HO5 := hide hO5
  have hz5 : w4.heap.size + 1 = w5.heap.size := by have := hs5; simpa using this.symm
  clear hD5 hb5 j1 hO5 hg5 hs5 hS0 j0
  go_wp2
  refine leaves_cons (f := 142) (args := #[.pointer (some ⟨w.heap.size + 1, 0, none⟩)]) (by simp) (by simp [go_sem]) ?_
  refine (openD ⟨w.heap.size + 1, 0, none⟩ _).mono ?_
  rintro e u' w7 ⟨rfl, rfl, rfl⟩
  have oE := Only.set1 w5 (w.heap.size + 1) 0 .nilIface
  have r0 := cellOf (HJ0.out.only oE (by omega)) 0 rfl
  have r1 := cellOf (HJ0.out.only oE (by omega)) 1 rfl
  have r2 := cellOf (HJ1.out.set_ 0 .nilIface) 0 rfl
  refine ⟨.tuple #[.pointer (some ⟨w4.heap.size, 0, none⟩), .agg #[.pointer none, .int .i64 0], .nilIface], by simp [results, Tryz.results104, go_sem, r0, r1, r2], w4.heap.size, rfl, ?_, by omega, ?_, ?_⟩
  · have := HD5.out.only oE (by omega)
    have hcs : (#[.iface 23 (.pointer (some ⟨b, 0, none⟩))] : Array Value) ++ hd.cells = #[.iface 23 (.pointer (some ⟨b, 0, none⟩)), .int .i64 hd.slot, .int .u32 hd.gen, .int .i64 0, .int .u32 hd.rgen] := by
      unfold Hd.cells
      rw [hz0]
      rfl
    rw [hcs]
    exact this
  · have hlt : ∀ x, dfp b g (.slice none 0 0) x → x < w.heap.size := fun x hx => by
      rcases hx with h | h | h
      · omega
      · omega
      · simp [Value.ownBlock] at h
    exact (HD4.out.only HO5.out fun x hx e => by have := hlt x hx; omega).only oE fun x hx e => by have := hlt x hx; omega
  · refine (HO4.out.trans' (HO5.out.mono (fq := fun x => x = b ∨ x = g ∨ x = w.heap.size) fun x _ h => .inr (.inr h)) (fun x hx h => by rcases h with h | h | h <;> omega)).setCell (p := ⟨w.heap.size + 1, 0, none⟩) (.inr (by simp)) _
end Go.Proofs.YtemondlgcmpbbaaGreatDoor
