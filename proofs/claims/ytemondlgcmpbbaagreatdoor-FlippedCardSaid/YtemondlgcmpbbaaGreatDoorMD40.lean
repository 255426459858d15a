/- Oh Oj: merged. -/
import Derived.Test.YtemondlgcmpbbaaGreatDoorMD29
import Derived.Test.YtemondlgcmpbbaaGreatDoorMD35
namespace Go.Proofs.YtemondlgcmpbbaaGreatDoor
open Go.RowKit
set_option maxRecDepth 100000
def OpenTwo (w : World) (K b g base n : Nat) (m : Nums) (bytes : List UInt8) (cache : List (Nat × List UInt8)) (hd2 : Hd) (ht : Nat) (t : Tr ht) (ht2 : Nat) (t2 : Tr ht2) (gd : Bool) (e : Ending) (w' : World) : Prop :=
 (gd = true -> ∃ k f bt m', k <= nodes ht t /\ e = .returned (.tuple #[.pointer (some ⟨f, 0, none⟩), .agg #[P bt, .int .i64 (Tr.pairs ht2 t2).length], .nilIface]) /\ Blk w' f 151 (#[.iface 23 (.pointer (some ⟨b, 0, none⟩))] ++ hd2.cells) /\ w.heap.size <= f /\ FRep (fun z => w.heap.size <= z) w' ht2 t2 bt [] /\ m'.calm /\ m'.writes = m.writes /\ Dk w' (K + k + nodes ht2 t2 + 3) b g base n (.slice none 0 0) m' (dflush bytes cache) [] /\ Only (fun x => x = b \/ x = g) w w') /\
 (gd = false -> ∃ f, e = .returned (.tuple #[.pointer none, .agg #[.pointer none, .int .i64 0], faultV f]) /\ FaultAt w' f sOpen 9 /\ w.heap.size <= f /\ Only (fun x => x = b) w w')
set_option maxHeartbeats 4000000 in
theorem dopen_two (K b g base n : Nat) (m : Nums) (bytes : List UInt8) (cache : List (Nat × List UInt8)) (cv : Value) (w : World) (h : Dk w K b g base n cv m bytes cache) (hc : m.calm) (hn : 8 <= n) (hn4 : n <= 400) (hd hd2 : Hd) (hh : headsN (dread bytes cache) = [hd, hd2]) (hz0 : 0 < hd.blk) (hz02 : 0 < hd2.blk)
   (ht : Nat) (t : Tr ht) (htb : Tr.blk ht t = hd.blk) (htr : Tr.gen ht t = hd.rgen) (hw : WF ht noKey none t) (hq : NS (LQ (dread bytes cache) n hd.gen) ht t) (hnd : (blks ht t).Nodup) (hht : ht <= 40) (hg : good (dread bytes cache) ht t = false) (hp : (Tr.pairs ht t).length <= 1000)
   (ht2 : Nat) (t2 : Tr ht2) (htb2 : Tr.blk ht2 t2 = hd2.blk) (htr2 : Tr.gen ht2 t2 = hd2.rgen) (hw2 : WF ht2 noKey none t2) (hq2 : NS (LQ (dread bytes cache) n hd2.gen) ht2 t2) (hnd2 : (blks ht2 t2).Nodup) (hht2 : ht2 <= 40) (gd : Bool) (hg2 : good (dread bytes cache) ht2 t2 = gd) (hK : K + nodes ht t + nodes ht2 t2 + 5 < edge) (hp2 : (Tr.pairs ht2 t2).length <= 1000) :
   Calls Tryz.prog 104 #[.iface 23 (.pointer (some ⟨b, 0, none⟩))] w (OpenTwo w K b g base n m bytes cache hd2 ht t ht2 t2 gd) := by
 have hmf : ∀ (fn : Fn) (first cap : Array Value) (w : World), (Instr.makeFunc fn first cap).run Tryz.prog w = .ok (.func fn first cap) w := fun _ _ _ _ => rfl
 have hmm := @run_makeMap Tryz.prog
 have hlen : ∀ i, i < n -> (dread bytes cache i).length = 128 := fun i hi => h.dlen hi
 have hm1 := headsN_mem (dread bytes cache) hd (hh ▸ List.mem_cons_self ..)
 have hm2 := headsN_mem (dread bytes cache) hd2 (hh ▸ List.mem_cons_of_mem _ (List.mem_cons_self ..))
 have HLOADA := hide (fun (L U : Nat) => load_any (b := b) (g := g) (base := base) (cv := cv) (L := L) (U := U) (G := hd.gen) (by have := (headUp_slot _ 2 hd hm1).2.1; omega) hlen hn4 ht t noKey none hw hq hnd (fun k hk => by cases hk))
 have HLOAD := hide (fun (L U : Nat) => load_any (b := b) (g := g) (base := base) (cv := cv) (L := L) (U := U) (G := hd2.gen) (by have := (headUp_slot _ 2 hd2 hm2).2.1; omega) hlen hn4 ht2 t2 noKey none hw2 hq2 hnd2 (fun k hk => by cases hk))
 have HGDA := hide hg
 have HGD := hide hg2
 have H := hide h
 have HC := hide hc
 have HMEMA := hide (headUp_slot _ 2 hd hm1)
 have HMEM := hide (headUp_slot _ 2 hd2 hm2)
 have H3 := hide (h.below ((((Below.refl _ _).alloc (Nat.le_refl _) (Obj.cells #[.pointer none, .int .i64 0] 88)).alloc (by simp) (Obj.cells #[.nilIface] 31)).alloc (by simp; omega) (Obj.cells #[.iface 23 (.pointer (some ⟨b, 0, none⟩))] 147)))
 have HR := hide (heads_up K b g base n cv m bytes cache _ H3.out hc hn (by omega))
 rw [hh] at HR
 unfold vol at HR
 clear h hc hh hlen hw hq hnd hg hw2 hq2 hnd2 hg2 hm1 hm2
 go_enter_defers Tryz.func104, Tryz.ntmps104
 go_wp2_with fail
 refine HR.out.mono ?_
 rintro e w1 ⟨v, rfl, hown, hd1, ho1⟩
 obtain ⟨A, c, rfl, hlc, hcm, hrow, hno⟩ := ownN_form hown
 have hz : w.heap.size + 1 + 1 + 1 <= w1.heap.size := by have := ho1.size; simpa only [World.size_alloc] using this
 have hbl : b < w.heap.size := H.out.at_.lt
 have e0 : Blk w1 w.heap.size 88 #[.pointer none, .int .i64 0] := ho1.blk (((Blk.new w _ _).alloc _).alloc _) (by omega)
 have e1 : Blk w1 (w.heap.size + 1) 31 #[.nilIface] := ho1.blk ((Blk.new2 w _ _ _).alloc _) (by omega)
 have e2 : Blk w1 (w.heap.size + 1 + 1) 147 #[.iface 23 (.pointer (some ⟨b, 0, none⟩))] := ho1.blk (by have := Blk.new2 (w.alloc (Obj.cells #[.pointer none, .int .i64 0] 88)) (Obj.cells #[.nilIface] 31) 147 #[.iface 23 (.pointer (some ⟨b, 0, none⟩))]; rwa [World.size_alloc] at this) (by omega)
 have hoW : Only (fun x => x = b) w w1 := Only.trans ((((Only.refl _ _).alloc _).alloc _).alloc _) ho1
 obtain ⟨gl, cur, rfl, hcur, htk⟩ : ∃ gl cur, A = some ⟨gl, 0, none⟩ /\ Blk w1 gl 149 cur /\ cur.toList.take ([hd, hd2].length * 4) = hcells [hd, hd2] := by
   cases A with
   | none => have := (hno rfl).1; simp at this
   | some a =>
     obtain ⟨_, _, e, cur, hb, _, ht⟩ := hrow a.block rfl
     exact ⟨a.block, cur, e, hb, ht⟩
 have cell : ∀ W : World, Blk W gl 149 cur -> ∀ j v, (hcells [hd, hd2])[j]? = some v -> W.cell? ⟨gl, j, none⟩ = some v   := fun W hW j v hv => by
   rw [hW.cell, <- Array.getElem?_toList]
   rw [<- htk, List.getElem?_take] at hv
   split at hv
   . exact hv
   . cases hv
 have c0 : w1.cell? ⟨gl, 0, none⟩ = some (.int .i64 hd.slot) := cell w1 hcur 0 _ rfl
 have c1 : w1.cell? ⟨gl, 1, none⟩ = some (.int .u32 hd.gen) := cell w1 hcur 1 _ rfl
 have c2 : w1.cell? ⟨gl, 2, none⟩ = some (.int .i64 hd.blk) := cell w1 hcur 2 _ rfl
 have c3 : w1.cell? ⟨gl, 3, none⟩ = some (.int .u32 hd.rgen) := cell w1 hcur 3 _ rfl
 have CELL := hide cell
 have HCUR := hide hcur
 have v0 := cellOf e2 0 rfl
 have v0' := fun o => cellA o v0
 have v0'' := fun o o1 o2 => cellA o2 (cellA o1 (cellA o v0))
 have HD1 := hide hd1
 have HO1 := hide hoW
 have HE0 := hide e0
 have HE1 := hide e1
 have HE2 := hide e2
 have z2 : (0 : Int) < (hd.blk : Int) := by omega
 clear hd1 ho1 hoW e0 e1 e2 hrow hno hown cell htk hcur
 go_wp2
 refine wp_loop_rounds 3 ?_
 rw [rounds_succ]
 go_wp2_with fail
 obtain ⟨W2, hW2⟩ : ∃ W2, W2 = ((w1.alloc (.cells #[.int .i64 hd.slot, .int .u32 hd.gen, .int .i64 hd.blk, .int .u32 hd.rgen] 149)).alloc (.map #[] 0)).alloc (.cells #[.iface 23 (.pointer (some ⟨b, 0, none⟩)), .int .u32 hd.gen, .map (some (w1.heap.size + 1)), .int .i64 0] 231) := ⟨_, rfl⟩
 rw [<- hW2]
 have hb2 : Below w1.heap.size w1 W2 := by rw [hW2]; exact (((Below.refl _ _).alloc (Nat.le_refl _) _).alloc (by simp) _).alloc (by simp; omega) _
 have hl2 : LrAt W2 (w1.heap.size + 1 + 1) b hd.gen (w1.heap.size + 1) 0 := by
   rw [hW2]
   have := Blk.new ((w1.alloc (.cells #[.int .i64 hd.slot, .int .u32 hd.gen, .int .i64 hd.blk, .int .u32 hd.rgen] 149)).alloc (.map #[] 0)) 231 #[.iface 23 (.pointer (some ⟨b, 0, none⟩)), .int .u32 hd.gen, .map (some (w1.heap.size + 1)), .int .i64 0]
   simp only [World.size_alloc] at this
   exact this
 have hu2 : UsedAt W2 (w1.heap.size + 1) [] := by
   rw [hW2]
   have := UsedAt.new (w1.alloc (.cells #[.int .i64 hd.slot, .int .u32 hd.gen, .int .i64 hd.blk, .int .u32 hd.rgen] 149))
   simp only [World.size_alloc] at this
   exact this.below ((Below.refl _ _).alloc (Nat.le_refl _) _)
 have hgen := HMEMA.out.2.1
 have HL := HLOADA.out (w1.heap.size + 1 + 1) (w1.heap.size + 1) (K + 2) (ticks m 2) 0 [] 0 W2 ⟨HD1.out.below hb2, ticks_calm HC.out 2, hl2, hu2, hn, hn4, by omega, by omega, Int.le_refl _, by omega⟩ (by omega) (by omega) (Int.le_refl _) (by omega) (fun x _ h => by cases h)
 rw [htb, htr] at HL
 refine (load_no HGDA.out HL).mono ?_
 rintro e w3 ⟨kf, rfl, hkf, hd3, ho3⟩
 have hgll : gl < w1.heap.size := HCUR.out.lt
 have hglb : ¬ gl = b := fun e => Blk.ne_ HCUR.out HD1.out.at_ (by decide) e
 have hgle : ¬ gl = w.heap.size := fun e => Blk.ne_ HCUR.out HE0.out (by decide) e
 have j0 := (HE0.out.below hb2 HE0.out.lt).only ho3 (by omega)
 have j1 := (HE1.out.below hb2 HE1.out.lt).only ho3 (by omega)
 have j2 := (HE2.out.below hb2 HE2.out.lt).only ho3 (by omega)
 have jc := (HCUR.out.below hb2 HCUR.out.lt).only ho3 (by omega)
 have kf0 : w3.frozen? ⟨w.heap.size, 0, none⟩ = false := j0.frozen 0
 have k0 := cellOf j0 0 rfl
 obtain ⟨v1, hv1⟩ : ∃ v1, v1 = w3.setCell ⟨w.heap.size, 0, none⟩ (.pointer none) := ⟨_, rfl⟩
 have hoS : Only (fun x => x = w.heap.size) w3 v1 := by rw [hv1]; exact Only.set1 w3 w.heap.size 0 _
 have e0 : Blk v1 w.heap.size 88 #[.pointer none, .int .i64 0] := by rw [hv1]; exact j0.set_ 0 (.pointer none)
 have e1 := j1.only hoS (by omega)
 have e2 := j2.only hoS (by omega)
 have ec := jc.only hoS hgle
 have c4 : v1.cell? ⟨gl, 4, none⟩ = some (.int .i64 hd2.slot) := CELL.out v1 ec 4 _ rfl
 have c5 : v1.cell? ⟨gl, 5, none⟩ = some (.int .u32 hd2.gen) := CELL.out v1 ec 5 _ rfl
 have c6 : v1.cell? ⟨gl, 6, none⟩ = some (.int .i64 hd2.blk) := CELL.out v1 ec 6 _ rfl
 have c7 : v1.cell? ⟨gl, 7, none⟩ = some (.int .u32 hd2.rgen) := CELL.out v1 ec 7 _ rfl
 have hd3v := hd3.only hoS (fun x hx e => by have := H.out.lt hx; omega)
 have o1 : Only (fun x => x = b \/ w.heap.size <= x) w1 W2 := Only.of_below hb2
 have o2 : Only (fun x => x = b \/ w.heap.size <= x) W2 w3 := ho3.mono (fun x _ h => by
   rcases h with h | h | h
   . exact .inl h
   . exact .inr (by omega)
   . exact .inr (by omega))
 have o3 : Only (fun x => x = b \/ w.heap.size <= x) w3 v1 := hoS.mono (fun x _ h => .inr (by omega))
 have hoV : Only (fun x => x = b) w v1 := HO1.out.trans' ((o1.trans o2).trans o3) (fun x hx h => by
   rcases h with h | h
   . exact h
   . omega)
 have hzv : w1.heap.size <= v1.heap.size := by have := hb2.size; have := ho3.size; have := hoS.size; omega
 clear HD1 HO1 HE0 HE1 HE2 o1 o2 o3 HCUR CELL HLOADA HGDA HMEMA
 go_wp2_with fail
 rw [<- hv1]
 have hz : w.heap.size + 1 + 1 + 1 <= v1.heap.size := by omega
 have v0 := cellOf e2 0 rfl
 have v0' := fun o => cellA o v0
 have v0'' := fun o o1 o2 => cellA o2 (cellA o1 (cellA o v0))
 have t0'' := fun o o1 o2 => cellA o2 (cellA o1 (cellA o (cellOf e0 0 rfl)))
 have t1'' := fun o o1 o2 => cellA o2 (cellA o1 (cellA o (cellOf e0 1 rfl)))
 have f0'' : ∀ o o1 o2, (((v1.alloc o).alloc o1).alloc o2).frozen? ⟨w.heap.size, 0, none⟩ = false := fun o o1 o2 => (((e0.alloc o).alloc o1).alloc o2).frozen 0
 have f1'' : ∀ o o1 o2, (((v1.alloc o).alloc o1).alloc o2).frozen? ⟨w.heap.size, 1, none⟩ = false := fun o o1 o2 => (((e0.alloc o).alloc o1).alloc o2).frozen 1
 have HD1 := hide hd3v
 have HO1 := hide hoV
 have HE0 := hide e0
 have HE1 := hide e1
 have HE2 := hide e2
 have z2 : (0 : Int) < (hd2.blk : Int) := by omega
 clear hW2 hb2 hl2 hu2 HL hd3 ho3 j0 j1 j2 jc hgen hv1 hoS hd3v hoV ec kf0 k0 e0 e1 e2
 rw [rounds_succ]
 go_wp2_with fail
 obtain ⟨W2, hW2⟩ : ∃ W2, W2 = ((v1.alloc (.cells #[.int .i64 hd2.slot, .int .u32 hd2.gen, .int .i64 hd2.blk, .int .u32 hd2.rgen] 149)).alloc (.map #[] 0)).alloc (.cells #[.iface 23 (.pointer (some ⟨b, 0, none⟩)), .int .u32 hd2.gen, .map (some (v1.heap.size + 1)), .int .i64 0] 231) := ⟨_, rfl⟩
 rw [<- hW2]
 have hb2 : Below v1.heap.size v1 W2 := by rw [hW2]; exact (((Below.refl _ _).alloc (Nat.le_refl _) _).alloc (by simp) _).alloc (by simp; omega) _
 have hz2 : v1.heap.size + 1 + 1 + 1 = W2.heap.size := by rw [hW2]; simp
 have hh2 : Blk W2 v1.heap.size 149 #[.int .i64 hd2.slot, .int .u32 hd2.gen, .int .i64 hd2.blk, .int .u32 hd2.rgen] := by rw [hW2]; exact ((Blk.new v1 _ _).alloc _).alloc _
 have hl2 : LrAt W2 (v1.heap.size + 1 + 1) b hd2.gen (v1.heap.size + 1) 0 := by
   rw [hW2]
   have := Blk.new ((v1.alloc (.cells #[.int .i64 hd2.slot, .int .u32 hd2.gen, .int .i64 hd2.blk, .int .u32 hd2.rgen] 149)).alloc (.map #[] 0)) 231 #[.iface 23 (.pointer (some ⟨b, 0, none⟩)), .int .u32 hd2.gen, .map (some (v1.heap.size + 1)), .int .i64 0]
   simp only [World.size_alloc] at this
   exact this
 have hu2 : UsedAt W2 (v1.heap.size + 1) [] := by
   rw [hW2]
   have := UsedAt.new (v1.alloc (.cells #[.int .i64 hd2.slot, .int .u32 hd2.gen, .int .i64 hd2.blk, .int .u32 hd2.rgen] 149))
   simp only [World.size_alloc] at this
   exact this.below ((Below.refl _ _).alloc (Nat.le_refl _) _)
 have hgen := HMEM.out.2.1
 have HL := HLOAD.out (v1.heap.size + 1 + 1) (v1.heap.size + 1) (K + 2 + kf) (ticks (ticks m 2) kf) 0 [] 0 W2 ⟨HD1.out.below hb2, ticks_calm (ticks_calm HC.out 2) kf, hl2, hu2, hn, hn4, by omega, by omega, Int.le_refl _, by omega⟩ (by omega) (by omega) (Int.le_refl _) (by omega) (fun x _ h => by cases h)
 rw [htb2, htr2] at HL
 cases gd with
 | true =>
   refine (load_yes HGD.out HL).mono ?_
   rintro e w3 ⟨k2, bt, Lu4, rfl, hk2, hd3, ho3, hf3, hl3, hu3, _⟩
   rw [Int.zero_add] at hl3
   have hz3 := ho3.size
   have hgl : g < w.heap.size := H.out.blk.lt
   have j0 := (HE0.out.below hb2 HE0.out.lt).only ho3 (by omega)
   have j1 := (HE1.out.below hb2 HE1.out.lt).only ho3 (by omega)
   have j2 := (HE2.out.below hb2 HE2.out.lt).only ho3 (by omega)
   have jh := hh2.only ho3 (by omega)
   have k0 := cellOf j0 0 rfl
   have k1 := cellOf j0 1 rfl
   have k2' := cellOf j2 0 rfl
   have k3 := cellOf hl3 3 rfl
   have kf0 : w3.frozen? ⟨w.heap.size, 0, none⟩ = false := j0.frozen 0
   have kf1 : (w3.setCell ⟨w.heap.size, 0, none⟩ (P bt)).frozen? ⟨w.heap.size, 1, none⟩ = false := (j0.set_ 0 (P bt)).frozen 1
   have kc1 : (w3.setCell ⟨w.heap.size, 0, none⟩ (P bt)).cell? ⟨w.heap.size, 1, none⟩ = some (.int .i64 0) := cellOf (j0.set_ 0 (P bt)) 1 rfl
   have kl3 : (w3.setCell ⟨w.heap.size, 0, none⟩ (P bt)).cell? ⟨v1.heap.size + 1 + 1, 3, none⟩ = some (.int .i64 (Tr.pairs ht2 t2).length) := cellOf (Blk.only hl3 (Only.set1 w3 w.heap.size 0 (P bt)) (by omega)) 3 rfl
   have HF3 := hide hf3
   have HD3 := hide hd3
   have HO3 := hide ho3
   have HB2 := hide hb2
   have J0 := hide j0
   have J1 := hide j1
   have J2 := hide j2
   have JH := hide jh
   clear hW2 hb2 hh2 hl2 hu2 HL hd3 ho3 hf3 hl3 hu3 j0 j1 j2 jh hgen
   unfold P at *
   go_wp2_with fail
   obtain ⟨W3, hW3⟩ : ∃ W3, W3 = (w3.setCell ⟨w.heap.size, 0, none⟩ (.pointer (some ⟨bt, 0, none⟩))).setCell ⟨w.heap.size, 1, none⟩ (.int .i64 (Tr.pairs ht2 t2).length) := ⟨_, rfl⟩
   rw [<- hW3]
   have hoS : Only (fun x => x = w.heap.size) w3 W3 := by rw [hW3]; exact (Only.set1 w3 w.heap.size 0 _).set2 1 _
   have h3e : Blk W3 w.heap.size 88 #[.pointer (some ⟨bt, 0, none⟩), .int .i64 (Tr.pairs ht2 t2).length] := by rw [hW3]; exact (J0.out.set_ 0 _).set_ 1 _
   have hd3 : Dk W3 (K + 2 + kf + k2) b g base n cv (ticks (ticks (ticks m 2) kf) k2) bytes cache := HD3.out.only hoS (fun x hx e => by have := H.out.lt hx; omega)
   have hzS := hoS.size
   refine (vflush_any (K + 2 + kf + k2) b g base n cv (ticks (ticks (ticks m 2) kf) k2) bytes cache W3 hd3 (ticks_calm (ticks_calm (ticks_calm HC.out 2) kf) k2).bad (by omega)).mono ?_
   rintro e w4 ⟨rfl, hd4, ho4⟩
   have hz4 := ho4.size
   have i0 := h3e.only ho4 (by omega)
   have i1 := (J1.out.only hoS (by omega)).only ho4 (by omega)
   have i2 := (J2.out.only hoS (by omega)).only ho4 (by omega)
   have i3 := (JH.out.only hoS (by omega)).only ho4 (by omega)
   have hf4 : FRep (fun z => w.heap.size <= z) w4 ht2 t2 bt [] := by
     have f1 := HF3.out.only3 (ok := fun z => W2.heap.size <= z) hoS (fun z T cs hz hT e => by
       rw [e] at hz
       refine Blk.ne_ hz J0.out ?_ rfl
       rintro rfl
       rcases hT with h | h | h <;> exact absurd h (by decide))
     have f2 := f1.only3 ho4 (fun z T cs hz hT e => by
       rcases e with e | e
       . refine Blk.ne_ hz hd3.at_ ?_ e
         rintro rfl
         rcases hT with h | h | h <;> exact absurd h (by decide)
       . refine Blk.ne_ hz hd3.blk ?_ e
         rintro rfl
         rcases hT with h | h | h <;> exact absurd h (by decide))
     exact f2.more (fun z hz => by have h9 : W2.heap.size <= z := hz; omega)
   have o1 : Only (fun x => x = b \/ x = g \/ w.heap.size <= x) v1 W2 := Only.of_below HB2.out
   have o2 : Only (fun x => x = b \/ x = g \/ w.heap.size <= x) W2 w3 := HO3.out.mono (fun x _ h => by
     rcases h with h | h | h
     . exact .inl h
     . exact .inr (.inr (by omega))
     . exact .inr (.inr (by omega)))
   have o3 : Only (fun x => x = b \/ x = g \/ w.heap.size <= x) w3 W3 := hoS.mono (fun x _ h => .inr (.inr (by omega)))
   have o4 : Only (fun x => x = b \/ x = g \/ w.heap.size <= x) W3 w4 := ho4.mono (fun x _ h => h.imp id .inl)
   have ho5 : Only (fun x => x = b \/ x = g) w w4 := (HO1.out.mono (fq := fun x => x = b \/ x = g) (fun x _ h => .inl h)).trans' (((o1.trans o2).trans o3).trans o4) (fun x hx h => by
     rcases h with h | h | h
     . exact .inl h
     . exact .inr h
     . omega)
   clear o1 o2 o3 o4
   have d0 := cellOf i0 0 rfl
   have d1 := cellOf i0 1 rfl
   have d2 := cellOf i1 0 rfl
   have d3 := cellOf i2 0 rfl
   have d4 := cellOf i3 0 rfl
   have d5 := cellOf i3 1 rfl
   have d6 := cellOf i3 2 rfl
   have d7 := cellOf i3 3 rfl
   have f4 : w4.frozen? ⟨w.heap.size, 0, none⟩ = false := i0.frozen 0
   have f5 : w4.frozen? ⟨w.heap.size, 1, none⟩ = false := i0.frozen 1
   have f6 : w4.frozen? ⟨w.heap.size + 1, 0, none⟩ = false := i1.frozen 0
   have HD4 := hide hd4
   have HO4 := hide ho5
   have HI0 := hide i0
   have HI1 := hide i1
   have HF4 := hide hf4
   have hz14 : v1.heap.size + 1 + 1 + 1 <= w4.heap.size := by omega
   clear hd3 hd4 ho4 i0 i1 i2 i3 ho5 hf4 h3e hoS hW3 k0 k1 k2' k3 kf0 kf1 kc1 kl3 hzS hz3 hz2 hz4
   go_upto_region 13 with fail
   refine wp_region_noPanic ?_
   refine wp_region_held_drew (S := fun w' => w'.cell? ⟨w.heap.size + 1 + 1, 0, none⟩ = some (.iface 23 (.pointer (some ⟨b, 0, none⟩))) /\ w'.cell? ⟨v1.heap.size, 0, none⟩ = some (.int .i64 hd2.slot) /\ w'.cell? ⟨v1.heap.size, 1, none⟩ = some (.int .u32 hd2.gen) /\ w'.cell? ⟨v1.heap.size, 2, none⟩ = some (.int .i64 hd2.blk) /\ w'.cell? ⟨v1.heap.size, 3, none⟩ = some (.int .u32 hd2.rgen) /\ w'.cell? ⟨w.heap.size, 0, none⟩ = some (.pointer (some ⟨bt, 0, none⟩)) /\ w'.cell? ⟨w.heap.size, 1, none⟩ = some (.int .i64 (Tr.pairs ht2 t2).length)) (by kernel_rfl) ⟨d3, d4, d5, d6, d7, d0, d1⟩ ?_
   intro hS0
   refine wpAnyH_t 0 (.agg #[.iface 23 (.pointer (some ⟨b, 0, none⟩))]) (some 46) rfl rfl (.inl ⟨rfl, fun w' hSw => by have s1 := hSw.1; clear hSw; go_simp⟩) hS0 ?_
   simp only [Act.put, n1, n2, n3]
   refine wpAnyH_t 1 (.agg #[.int .i64 hd2.slot, .int .u32 hd2.gen, .int .i64 hd2.blk, .int .u32 hd2.rgen]) (some 47) rfl rfl (.inl ⟨rfl, fun w' hSw => by obtain ⟨_, s1, s2, s3, s4, _⟩ := hSw; go_simp⟩) hS0 ?_
   simp only [Act.put, n1, n2, n3]
   refine wpAnyH_t 2 (.agg #[.iface 23 (.pointer (some ⟨b, 0, none⟩)), .int .i64 hd2.slot, .int .u32 hd2.gen, .int .i64 hd2.blk, .int .u32 hd2.rgen]) (some 48) rfl rfl (.inl ⟨rfl, fun w' hSw => by clear hSw; go_simp⟩) hS0 ?_
   simp only [Act.put, n1, n2, n3]
   refine wpAnyH_t 4 (.agg #[.pointer (some ⟨bt, 0, none⟩), .int .i64 (Tr.pairs ht2 t2).length]) (some 50) rfl rfl (.inl ⟨rfl, fun w' hSw => by obtain ⟨_, _, _, _, _, s1, s2⟩ := hSw; go_simp⟩) hS0 ?_
   simp only [Act.put, n1, n2, n3]
   refine wpAnyH_one (i := 3) (by kernel_rfl) rfl rfl ?_
   go_simp
   have hS0 : (w4.alloc (.cells #[.iface 23 (.pointer (some ⟨b, 0, none⟩)), .int .i64 hd2.slot, .int .u32 hd2.gen, .int .i64 hd2.blk, .int .u32 hd2.rgen] 151)).drew.cell? ⟨w.heap.size + 1 + 1, 0, none⟩ = some (.iface 23 (.pointer (some ⟨b, 0, none⟩))) /\ (w4.alloc (.cells #[.iface 23 (.pointer (some ⟨b, 0, none⟩)), .int .i64 hd2.slot, .int .u32 hd2.gen, .int .i64 hd2.blk, .int .u32 hd2.rgen] 151)).drew.cell? ⟨v1.heap.size, 0, none⟩ = some (.int .i64 hd2.slot) /\ (w4.alloc (.cells #[.iface 23 (.pointer (some ⟨b, 0, none⟩)), .int .i64 hd2.slot, .int .u32 hd2.gen, .int .i64 hd2.blk, .int .u32 hd2.rgen] 151)).drew.cell? ⟨v1.heap.size, 1, none⟩ = some (.int .u32 hd2.gen) /\ (w4.alloc (.cells #[.iface 23 (.pointer (some ⟨b, 0, none⟩)), .int .i64 hd2.slot, .int .u32 hd2.gen, .int .i64 hd2.blk, .int .u32 hd2.rgen] 151)).drew.cell? ⟨v1.heap.size, 2, none⟩ = some (.int .i64 hd2.blk) /\ (w4.alloc (.cells #[.iface 23 (.pointer (some ⟨b, 0, none⟩)), .int .i64 hd2.slot, .int .u32 hd2.gen, .int .i64 hd2.blk, .int .u32 hd2.rgen] 151)).drew.cell? ⟨v1.heap.size, 3, none⟩ = some (.int .u32 hd2.rgen) /\ (w4.alloc (.cells #[.iface 23 (.pointer (some ⟨b, 0, none⟩)), .int .i64 hd2.slot, .int .u32 hd2.gen, .int .i64 hd2.blk, .int .u32 hd2.rgen] 151)).drew.cell? ⟨w.heap.size, 0, none⟩ = some (.pointer (some ⟨bt, 0, none⟩)) /\ (w4.alloc (.cells #[.iface 23 (.pointer (some ⟨b, 0, none⟩)), .int .i64 hd2.slot, .int .u32 hd2.gen, .int .i64 hd2.blk, .int .u32 hd2.rgen] 151)).drew.cell? ⟨w.heap.size, 1, none⟩ = some (.int .i64 (Tr.pairs ht2 t2).length) := ⟨cellA _ d3, cellA _ d4, cellA _ d5, cellA _ d6, cellA _ d7, cellA _ d0, cellA _ d1⟩
   refine ⟨hS0, ?_⟩
   refine wpAnyH_t 5 (.pointer (some ⟨w4.heap.size, 0, none⟩)) (some 2) rfl rfl (.inl ⟨rfl, fun w' hSw => by clear hSw; go_simp⟩) hS0 ?_
   simp only [Act.put, n1, n2, n3]
   have j0 := HI0.out.alloc (.cells #[.iface 23 (.pointer (some ⟨b, 0, none⟩)), .int .i64 hd2.slot, .int .u32 hd2.gen, .int .i64 hd2.blk, .int .u32 hd2.rgen] 151)
   have j1 := HI1.out.alloc (.cells #[.iface 23 (.pointer (some ⟨b, 0, none⟩)), .int .i64 hd2.slot, .int .u32 hd2.gen, .int .i64 hd2.blk, .int .u32 hd2.rgen] 151)
   refine wpAnyH_one (i := 6) (by kernel_rfl) rfl rfl ?_
   refine wp_store_sz 88 (.tmp 3) (.tmp 50) rfl w.heap.size 0 [.pointer (some ⟨bt, 0, none⟩), .int .i64 (Tr.pairs ht2 t2).length] rfl rfl 88 [.pointer (some ⟨bt, 0, none⟩), .int .i64 (Tr.pairs ht2 t2).length] j0.drew (Nat.le_refl _) size_tree (by intro v hv; simp at hv; rcases hv with rfl | rfl <;> rfl) ?_
   intro w5 hb5 hg5 hs5
   have hO5 : Only (fun x => x = w.heap.size) w4 w5 := Only.grown (((Only.refl _ _).alloc (.cells #[.iface 23 (.pointer (some ⟨b, 0, none⟩)), .int .i64 hd2.slot, .int .u32 hd2.gen, .int .i64 hd2.blk, .int .u32 hd2.rgen] 151)).drew) hg5 fun g' e => .inl (by injection e with e; exact e.symm)
   have hb5 : Blk w5 w.heap.size 88 #[.pointer (some ⟨bt, 0, none⟩), .int .i64 (Tr.pairs ht2 t2).length] := by rw [spl_all (L := [.pointer (some ⟨bt, 0, none⟩), .int .i64 (Tr.pairs ht2 t2).length]) (cs := [.pointer (some ⟨bt, 0, none⟩), .int .i64 (Tr.pairs ht2 t2).length]) rfl] at hb5; exact hb5
   have hD5 : Blk w5 w4.heap.size 151 #[.iface 23 (.pointer (some ⟨b, 0, none⟩)), .int .i64 hd2.slot, .int .u32 hd2.gen, .int .i64 hd2.blk, .int .u32 hd2.rgen] := (Blk.new w4 _ _).drew.grown hg5 (fun e => by injection e; omega)
   have q3 := (hO5.cell (p := ⟨w.heap.size + 1 + 1, 0, none⟩) (show w.heap.size + 1 + 1 < w4.heap.size by omega) (show ¬ (w.heap.size + 1 + 1 = w.heap.size) by omega)).trans d3
   have q4 := (hO5.cell (p := ⟨v1.heap.size, 0, none⟩) (show v1.heap.size < w4.heap.size by omega) (show ¬ (v1.heap.size = w.heap.size) by omega)).trans d4
   have q5 := (hO5.cell (p := ⟨v1.heap.size, 1, none⟩) (show v1.heap.size < w4.heap.size by omega) (show ¬ (v1.heap.size = w.heap.size) by omega)).trans d5
   have q6 := (hO5.cell (p := ⟨v1.heap.size, 2, none⟩) (show v1.heap.size < w4.heap.size by omega) (show ¬ (v1.heap.size = w.heap.size) by omega)).trans d6
   have q7 := (hO5.cell (p := ⟨v1.heap.size, 3, none⟩) (show v1.heap.size < w4.heap.size by omega) (show ¬ (v1.heap.size = w.heap.size) by omega)).trans d7
   have q0 := cellOf hb5 0 rfl
   have q1 := cellOf hb5 1 rfl
   have hS0 : w5.cell? ⟨w.heap.size + 1 + 1, 0, none⟩ = some (.iface 23 (.pointer (some ⟨b, 0, none⟩))) /\ w5.cell? ⟨v1.heap.size, 0, none⟩ = some (.int .i64 hd2.slot) /\ w5.cell? ⟨v1.heap.size, 1, none⟩ = some (.int .u32 hd2.gen) /\ w5.cell? ⟨v1.heap.size, 2, none⟩ = some (.int .i64 hd2.blk) /\ w5.cell? ⟨v1.heap.size, 3, none⟩ = some (.int .u32 hd2.rgen) /\ w5.cell? ⟨w.heap.size, 0, none⟩ = some (.pointer (some ⟨bt, 0, none⟩)) /\ w5.cell? ⟨w.heap.size, 1, none⟩ = some (.int .i64 (Tr.pairs ht2 t2).length) := ⟨q3, q4, q5, q6, q7, q0, q1⟩
   refine ⟨hS0, ?_⟩
   change wpAnyH _ _ _ _ _ _ _ (Act.put _ none undef) _
   simp only [Act.put]
   have j1 : Blk w5 (w.heap.size + 1) 31 #[.nilIface] := (HI1.out).only hO5 (by omega)
   have k4 : w5.frozen? ⟨w.heap.size + 1, 0, none⟩ = false := j1.frozen 0
   have k5 := cellOf j1 0 rfl
   refine wpAnyH_one (i := 7) (by kernel_rfl) rfl rfl ?_
   go_simp
   refine wpAnyH_done (by kernel_rfl) ?_ _
   refine NoPanic.normal ?_
   have HD5 := hide hD5
   have HJ0 := hide hb5
   have HJ1 := hide j1
   have HO5 := hide hO5
   have hz5 : w4.heap.size + 1 = w5.heap.size := by have := hs5; simpa using this.symm
   clear hD5 hb5 j1 hO5 hg5 hs5 hS0 j0
   go_wp2
   refine leaves_cons (f := 142) (args := #[.pointer (some ⟨w.heap.size + 1, 0, none⟩)]) (by simp) (by simp [go_sem]) ?_
   refine (openD ⟨w.heap.size + 1, 0, none⟩ _).mono ?_
   rintro e u' w7 ⟨rfl, rfl, rfl⟩
   have oE := Only.set1 w5 (w.heap.size + 1) 0 .nilIface
   have r0 := cellOf (HJ0.out.only oE (by omega)) 0 rfl
   have r1 := cellOf (HJ0.out.only oE (by omega)) 1 rfl
   have r2 := cellOf (HJ1.out.set_ 0 .nilIface) 0 rfl
   refine ⟨.tuple #[.pointer (some ⟨w4.heap.size, 0, none⟩), .agg #[.pointer (some ⟨bt, 0, none⟩), .int .i64 (Tr.pairs ht2 t2).length], .nilIface], by simp [results, Tryz.results104, go_sem, r0, r1, r2], fun _ => ⟨kf, w4.heap.size, bt, (ticks (ticks (ticks m 2) kf) k2).tick, hkf, rfl, ?_, by omega, ?_, (ticks_calm (ticks_calm (ticks_calm HC.out 2) kf) k2).tick, ?_, ?_, ?_⟩, nofun⟩
   . have := HD5.out.only oE (by omega)
     exact this
   . have f1 := HF4.out.only3 HO5.out (fun z T cs hz hT e => by
       rw [e] at hz
       refine Blk.ne_ hz HI0.out ?_ rfl
       rintro rfl
       rcases hT with h | h | h <;> exact absurd h (by decide))
     exact f1.only3 oE (fun z T cs hz hT e => by
       rw [e] at hz
       refine Blk.ne_ hz HJ1.out ?_ rfl
       rintro rfl
       rcases hT with h | h | h <;> exact absurd h (by decide))
   . show (ticks (ticks (ticks m 2) kf) k2).writes = m.writes
     rw [ticks_writes, ticks_writes, ticks_writes]
   . have hlt : ∀ x, dfp b g (.slice none 0 0) x -> x < w.heap.size := fun x hx => by
       rcases hx with h | h | h
       . omega
       . omega
       . simp [Value.ownBlock] at h
     exact ((HD4.out.only HO5.out fun x hx e => by have := hlt x hx; omega).only oE fun x hx e => by have := hlt x hx; omega).more (by omega)
   . refine (HO4.out.trans' (HO5.out.mono (fq := fun x => x = b \/ x = g \/ x = w.heap.size) fun x _ h => .inr (.inr h)) (fun x hx h => by rcases h with h | h | h <;> omega)).setCell (p := ⟨w.heap.size + 1, 0, none⟩) (.inr (by simp)) _
 | false =>
   refine (load_no HGD.out HL).mono ?_
   rintro e w3 ⟨k2, rfl, hk2, hd3, ho3⟩
   have j0 := (HE0.out.below hb2 HE0.out.lt).only ho3 (by omega)
   have j1 := (HE1.out.below hb2 HE1.out.lt).only ho3 (by omega)
   have k0 := cellOf j0 0 rfl
   have kf0 : w3.frozen? ⟨w.heap.size, 0, none⟩ = false := j0.frozen 0
   obtain ⟨w4, hw4⟩ : ∃ w4, w4 = w3.setCell ⟨w.heap.size, 0, none⟩ (.pointer none) := ⟨_, rfl⟩
   have hoS : Only (fun x => x = w.heap.size) w3 w4 := by rw [hw4]; exact Only.set1 w3 w.heap.size 0 _
   have e0 : Blk w4 w.heap.size 88 #[.pointer none, .int .i64 0] := by rw [hw4]; exact j0.set_ 0 (.pointer none)
   have e1 := j1.only hoS (by omega)
   have o1 : Only (fun x => x = b \/ w.heap.size <= x) v1 W2 := Only.of_below hb2
   have o2 : Only (fun x => x = b \/ w.heap.size <= x) W2 w3 := ho3.mono (fun x _ h => by
     rcases h with h | h | h
     . exact .inl h
     . exact .inr (by omega)
     . exact .inr (by omega))
   have o3 : Only (fun x => x = b \/ w.heap.size <= x) w3 w4 := hoS.mono (fun x _ h => .inr (by omega))
   have hoV : Only (fun x => x = b) w w4 := HO1.out.trans' ((o1.trans o2).trans o3) (fun x hx h => by
     rcases h with h | h
     . exact h
     . omega)
   have hz4 : v1.heap.size <= w4.heap.size := by have := hb2.size; have := ho3.size; have := hoS.size; omega
   clear o1 o2 o3
   go_wp2_with fail
   rw [<- hw4]
   have c0 := cellOf e0 0 rfl
   have c1 := cellOf e0 1 rfl
   have c2 := cellOf e1 0 rfl
   have f0 : w4.frozen? ⟨w.heap.size, 0, none⟩ = false := e0.frozen 0
   have f1 : w4.frozen? ⟨w.heap.size, 1, none⟩ = false := e0.frozen 1
   have f2 : w4.frozen? ⟨w.heap.size + 1, 0, none⟩ = false := e1.frozen 0
   have c0' := fun o => cellA o c0
   have c1' := fun o => cellA o c1
   have c2' := fun o => cellA o c2
   have f0' : ∀ o, (w4.alloc o).frozen? ⟨w.heap.size, 0, none⟩ = false := fun o => (e0.alloc o).frozen 0
   have f1' : ∀ o, (w4.alloc o).frozen? ⟨w.heap.size, 1, none⟩ = false := fun o => (e0.alloc o).frozen 1
   have f2' : ∀ o, (w4.alloc o).frozen? ⟨w.heap.size + 1, 0, none⟩ = false := fun o => (e1.alloc o).frozen 0
   have HO4 := hide hoV
   have HI0 := hide e0
   have HI1 := hide e1
   clear hW2 hb2 hh2 hl2 hu2 HL hd3 ho3 j0 j1 hgen hoS hw4 hoV e0 e1 k0 kf0
   rw [rounds_succ]
   go_wp2
   refine leaves_cons (f := 142) (args := #[.pointer (some ⟨w.heap.size + 1, 0, none⟩)]) (by simp) (by simp [go_sem]) ?_
   refine (openD ⟨w.heap.size + 1, 0, none⟩ _).mono ?_
   rintro e u' w7 ⟨rfl, rfl, rfl⟩
   have k0 := ((HI0.out.alloc (.cells #[.string sOpen, .iface 44 (.int .i64 9)] 130)).set_ 0 (.pointer none)).set_ 1 (.int .i64 0)
   have k1 := (((HI1.out.alloc (.cells #[.string sOpen, .iface 44 (.int .i64 9)] 130)).only (Only.set1 _ w.heap.size 0 (.pointer none)) (by simp)).only (Only.set1 _ w.heap.size 1 (.int .i64 0)) (by simp)).set_ 0 (faultV w4.heap.size)
   have k0 := k0.only (Only.set1 _ (w.heap.size + 1) 0 (faultV w4.heap.size)) (by simp)
   have r0 := cellOf k0 0 rfl
   have r1 := cellOf k0 1 rfl
   have r2 := cellOf k1 0 rfl
   simp only [faultV, sOpen] at r0 r1 r2
   refine ⟨.tuple #[.pointer none, .agg #[.pointer none, .int .i64 0], faultV w4.heap.size], by simp [results, Tryz.results104, go_sem, r0, r1, r2, faultV], ?_⟩
   have kF : Blk (w4.alloc (.cells #[.string sOpen, .iface 44 (.int .i64 9)] 130)) w4.heap.size 130 #[.string sOpen, .iface 44 (.int .i64 9)] := Blk.new ..
   have p1 := (kF.only (Only.set1 _ w.heap.size 0 (.pointer none)) (by omega)).only (Only.set1 _ w.heap.size 1 (.int .i64 0)) (by omega)
   have p2 := p1.only (Only.set1 _ (w.heap.size + 1) 0 (faultV w4.heap.size)) (by omega)
   have o1 := HO4.out.alloc (.cells #[.string sOpen, .iface 44 (.int .i64 9)] 130)
   have o2 := ((o1.setCell (p := ⟨w.heap.size, 0, none⟩) (.inr (Nat.le_refl _)) (.pointer none)).setCell (p := ⟨w.heap.size, 1, none⟩) (.inr (Nat.le_refl _)) (.int .i64 0)).setCell (p := ⟨w.heap.size + 1, 0, none⟩) (.inr (by simp)) (faultV w4.heap.size)
   exact ⟨nofun, fun _ => ⟨w4.heap.size, rfl, p2, by omega, o2⟩⟩
theorem sopen_wrong {K b g base n : Nat} {cv : Value} {m : Nums} {bytes : List UInt8} {cache : List (Nat × List UInt8)} {w : World} (h : Dk w K b g base n cv m bytes cache) (hf : fitsN n = true)
   (hdo : Calls Tryz.prog 104 #[.iface 23 (.pointer (some ⟨b, 0, none⟩))] w fun e w' => ∃ f, e = .returned (.tuple #[.pointer none, .agg #[.pointer none, .int .i64 0], faultV f]) /\ FaultAt w' f sOpen 9 /\ w.heap.size <= f /\ Only (fun x => x = b) w w') :
   Calls Tryz.prog 38 #[.pointer (some ⟨b, 0, none⟩)] w fun e w' => ∃ f, e = .returned (.tuple #[.pointer none, faultV f]) /\ FaultAt w' f sOpen 9 /\ Only (fun x => x = b) w w' := by
 have HF := hide (fits_any b n (capB bytes) (some ⟨g, 0, none⟩) cv m w h.at_ h.fits)
 have HD := hide hdo
 have HBL := hide h.at_.lt
 unfold fitsN at hf
 rw [hf] at HF
 unfold faultV at HD
 clear h hf hdo
 go_enter Tryz.func38, Tryz.ntmps38
 go_wp2_with (first
   | (go_at_call 65; go_in)
   | (go_at_call 103; refine HF.out.mono ?_; rintro e w' ⟨rfl, rfl⟩)
   | (go_at_call 104; refine HD.out.mono ?_; rintro e w' ⟨f, rfl, hfa, hz, ho⟩))
 go_ret2
 have hbl := HBL.out
 have hbel : Below w'.heap.size w' (w'.alloc (.cells #[.pointer none, .int .i64 0] 88)) := (Below.refl _ _).alloc (Nat.le_refl _) _
 exact ⟨f, rfl, hfa.below hbel hfa.lt, ho.below hbel⟩
theorem sr_open_two {V V' : Str -> Prop} {N K b g base n : Nat} {cv : Value} {m : Nums} {bytes : List UInt8} {cache : List (Nat × List UInt8)} {hd hd2 : Hd} {T T2 : Tree} {w : World} (h : Dk w K b g base n cv m bytes cache) (hc : m.calm) (hn : 8 <= n /\ n <= 400) (hh : headsN (dread bytes cache) = [hd, hd2])
   {ht : Nat} {t : Tr ht} (hr : T.root = some ⟨ht, t⟩) (hrb : Tr.blk ht t = hd.blk) (hrg : Tr.gen ht t = hd.rgen) (hz : 0 < hd.blk) (hq : TN (LQ (dread bytes cache) n hd.gen) T) (hnd : T.blks.Nodup) (hg : Good V T) (hbad : good (dread bytes cache) ht t = false)
   {ht2 : Nat} {t2 : Tr ht2} (hr2 : T2.root = some ⟨ht2, t2⟩) (hrb2 : Tr.blk ht2 t2 = hd2.blk) (hrg2 : Tr.gen ht2 t2 = hd2.rgen) (hz2 : 0 < hd2.blk) (hq2 : TN (LQ (dread bytes cache) n hd2.gen) T2) (hnd2 : T2.blks.Nodup) (hg2 : Good V' T2)
   (hK : K + 400 < edge) (hN : N <= w.heap.size) (hb : N <= b) (hgN : N <= g) :
   Calls Tryz.prog 38 #[.pointer (some ⟨b, 0, none⟩)] w fun e w' => (∃ x r, e = .returned (.tuple #[.pointer (some ⟨x, 0, none⟩), .nilIface]) /\ StoreR N w' (K + 300) b n x hd2.gen (.pointer none) T2 r [] /\ KpP N w w') \/ ∃ f, e = .returned (.tuple #[.pointer none, faultV f]) /\ FaultAt w' f sOpen 9 /\ KpP N w w' := by
 have hf : fitsN n = true := (fitsN_iff n).2 hn
 have nod : ∀ {U : Str -> Prop} {S : Tree} {k : Nat} {s : Tr k}, Good U S -> S.root = some ⟨k, s⟩ -> nodes k s <= 133 /\ (Tr.pairs k s).length <= 150 /\ k <= 40 := fun hG hR => by
   have h1 := hG.nodes
   have h2 := hG.pairs
   have h3 := hG.tf.low hG.few hR
   unfold tnodes at h1
   unfold Tree.pairs at h2
   rw [hR] at h1 h2
   exact ⟨h1, h2, by omega⟩
 obtain ⟨n1, n2, n3⟩ := nod hg hr
 obtain ⟨m1, m2, m3⟩ := nod hg2 hr2
 have hnd' : (blks ht t).Nodup := by unfold Tree.blks at hnd; rwa [hr] at hnd
 have hnd2' : (blks ht2 t2).Nodup := by unfold Tree.blks at hnd2; rwa [hr2] at hnd2
 have hsl := (headUp_slot _ 2 hd2 (headsN_mem (dread bytes cache) hd2 (by rw [hh]; exact List.mem_cons_of_mem _ (List.mem_cons_self ..)))).1
 have hdo := fun gd hgd => dopen_two K b g base n m bytes cache cv w h hc hn.1 hn.2 hd hd2 hh hz hz2 ht t hrb hrg (hg.tr.tw.some_ ht t hr) (hq ht t hr) hnd' n3 hbad (by omega) ht2 t2 hrb2 hrg2 (hg2.tr.tw.some_ ht2 t2 hr2) (hq2 ht2 t2 hr2) hnd2' m3 gd hgd (by omega) (by omega)
 cases hgd : good (dread bytes cache) ht2 t2 with
 | true =>
   refine (sopen_via (K' := K + 270) h hf hd2 ht2 t2 ((hdo true hgd).mono ?_)).mono ?_
   . rintro e w' ⟨hp, -⟩
     obtain ⟨k, f, bt, m', hk, h1, h2, h3, h4, h5, h6, h7, h8⟩ := hp rfl
     exact ⟨f, bt, m', h1, h2, h3, h4, h5, h6, h7.more (by omega), h8⟩
   . rintro e w' ⟨x, dk, rd, bt, m', rfl, hdb, hfr, hcm, hrd, hdk, hx, hdkl, hrdl, hd', ho⟩
     have hk0 : T2.keys = (Tr.pairs ht2 t2).length := by have := hg2.tr.tw.keys_; rw [this]; unfold Tree.pairs; rw [hr2]
     refine .inl ⟨x, ⟨g, base, m', _, dk, rd, hd2, P bt⟩, rfl, ⟨hd'.more (by omega), hcm, hdk, hsl, Nat.le_refl _, ?_, hrd, .inr ⟨ht2, t2, bt, hr2, rfl, hfr.more fun z hz => hz.2⟩, hb, hgN, Nat.le_trans hN hdkl, Nat.le_trans hN hx, Nat.le_trans hN hrdl, (fun _ h => by cases h), List.nodup_nil⟩, KpP.of_bg h hN hb hgN ho⟩
     rw [hk0]
     exact hdb
 | false =>
   refine (sopen_wrong h hf ((hdo false hgd).mono fun e w' hp => hp.2 rfl)).mono ?_
   rintro e w' ⟨f, rfl, hfa, ho⟩
   exact .inr ⟨f, rfl, hfa, KpP.of_bg h hN hb hgN (ho.mono fun x _ hx => .inl hx)⟩
end Go.Proofs.YtemondlgcmpbbaaGreatDoor
