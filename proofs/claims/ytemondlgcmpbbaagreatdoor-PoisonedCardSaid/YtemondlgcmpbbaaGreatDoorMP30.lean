/- St Od Oe: merged. -/
import Derived.Test.YtemondlgcmpbbaaGreatDoorMP29
import Derived.Test.YtemondlgcmpbbaaGreatDoorMP20
import Derived.Test.YtemondlgcmpbbaaGreatDoorMP05
namespace Go.Proofs.YtemondlgcmpbbaaGreatDoor
open Go.RowKit
set_option maxRecDepth 100000
structure SR where
 g : Nat
 base : Nat
 m : Nums
 bytes : List UInt8
 dk : Nat
 rd : Nat
 hd : Hd
 rp : Value
structure Store (N : Nat) (w : World) (K b n x G : Nat) (wr : Value) (T : Tree) (r : SR) : Prop where
 disk : Dk w K b r.g r.base n (.slice none 0 0) r.m r.bytes []
 calm : r.m.calm
 dkb : Blk w r.dk 151 (#[dev b] ++ r.hd.cells)
 slot : r.hd.slot < 2
 gen : r.hd.gen <= G
 db : DbAt w x ⟨r.dk, r.rp, T.keys, wr, r.rd, false⟩
 rd : RdAt w r.rd []
 tree : TreeV (fun z => z < w.heap.size) w T r.rp []
 nb : N <= b
 ng : N <= r.g
 ndk : N <= r.dk
 nx : N <= x
 nrd : N <= r.rd
structure Trans (N : Nat) (w : World) (t x S : Nat) (T : Tree) (rp : Value) (ds : List Nat) (stamp : Int) : Prop where
 tx : TxAt w t ⟨x, rp, T.keys, true, false, stamp⟩
 tree : TreeV (fun z => z < w.heap.size) w T rp ds
 nd : ds.Nodup
 nds : ∀ y ∈ ds, N <= y
 nt : N <= t
 s0 : 0 <= stamp
 s1 : stamp <= S
theorem TreeV.up_ {w w' : World} {T : Tree} {rp : Value} {ds : List Nat} (h : TreeV (up (fun z => z < w.heap.size) w.heap.size) w' T rp ds) : TreeV (fun z => z < w'.heap.size) w' T rp ds :=
 (TreeV.restr (fp := fun _ => False) (fun _ _ _ _ _ => id) h).more fun _ h => h.2.1
section
variable {N K b n x G : Nat} {wr : Value} {T : Tree} {r : SR} {w w' : World}
theorem Store.step (h : Store N w K b n x G wr T r) {t : Nat} (ht : ∀ y T' cs, Blk w y T' cs -> T' ≠ 94 -> y ≠ t) (hrt : r.rd ≠ t) (ho : Only (fun y => y = t \/ y = x) w w') {wr' : Value} (hd : DbAt w' x ⟨r.dk, r.rp, T.keys, wr', r.rd, false⟩) : Store N w' K b n x G wr' T r := by
 have hno : ∀ {y T' cs}, Blk w y T' cs -> T' ≠ 94 -> T' ≠ 91 -> ¬ (y = t \/ y = x) := fun hy h1 h2 e => by
  rcases e with e | e
  . exact ht _ _ _ hy h1 e
  . exact Blk.ne_ hy h.db h2 e
 refine ⟨h.disk.only ho (fun y hy e => ?_), h.calm, h.dkb.only ho (hno h.dkb (by decide) (by decide)), h.slot, h.gen, hd, ?_, ?_, h.nb, h.ng, h.ndk, h.nx, h.nrd⟩
 . rcases hy with rfl | rfl | hy
   . exact hno h.disk.at_ (by decide) (by decide) e
   . exact hno h.disk.blk (by decide) (by decide) e
   . simp [Value.ownBlock] at hy
 . exact h.rd.only ho (fun e => e.elim hrt (h.rd.ne_blk h.db))
 . exact (h.tree.only ho fun z T' cs _ hz hT => hno hz (fun e => zbl (X := 94) (by decide) (by decide) (by decide) (e ▸ hT)) (fun e => zbl (X := 91) (by decide) (by decide) (by decide) (e ▸ hT))).more fun z hz => Nat.lt_of_lt_of_le hz ho.size
theorem Store.below (h : Store N w K b n x G wr T r) (hb : Below w.heap.size w w') : Store N w' K b n x G wr T r :=
 ⟨h.disk.below hb, h.calm, h.dkb.below hb h.dkb.lt, h.slot, h.gen, Blk.below h.db hb (Blk.lt h.db), h.rd.only (Only.of_below (fp := fun _ => False) hb) id, (h.tree.below hb fun _ k => k).more fun _z hz => Nat.lt_of_lt_of_le hz hb.size, h.nb, h.ng, h.ndk, h.nx, h.nrd⟩
theorem Trans.below {t S : Nat} {rp : Value} {ds : List Nat} {stamp : Int} (h : Trans N w t x S T rp ds stamp) (hb : Below w.heap.size w w') : Trans N w' t x S T rp ds stamp :=
 ⟨Blk.below h.tx hb (Blk.lt h.tx), (h.tree.below hb fun _ k => k).more fun _z hz => Nat.lt_of_lt_of_le hz hb.size, h.nd, h.nds, h.nt, h.s0, h.s1⟩
theorem Store.size (h : Store N w K b n x G wr T r) : N <= w.heap.size := Nat.le_trans h.nx (Nat.le_of_lt (Blk.lt h.db))
theorem Store.more {K' : Nat} (h : Store N w K b n x G wr T r) (hK : K <= K') : Store N w K' b n x G wr T r := ⟨h.disk.more hK, h.calm, h.dkb, h.slot, h.gen, h.db, h.rd, h.tree, h.nb, h.ng, h.ndk, h.nx, h.nrd⟩
end
theorem zg2 (m : Nums) : ∀ k, (za6 m k).writes = m.writes
 | 0 => rfl
 | k + 1 => zg2 m k
set_option maxHeartbeats 4000000 in
theorem zup (K b g base n : Nat) (m : Nums) (bytes : List UInt8) (cache : List (Nat × List UInt8)) (cv : Value) (w : World) (h : Dk w K b g base n cv m bytes cache) (hc : m.calm) (hn : 8 <= n) (hn4 : n <= 400) (hd : Hd) (tl : List Hd) (hh : zba (dread bytes cache) = hd :: tl) (hz0 : 0 < hd.blk)
   (ht : Nat) (t : Tr ht) (htb : Tr.blk ht t = hd.blk) (htr : Tr.gen ht t = hd.rgen) (hw : WF ht noKey none t) (hq : NS (LQ (dread bytes cache) n hd.gen) ht t) (hnd : (blks ht t).Nodup) (hht : ht <= 40) (hg : good (dread bytes cache) ht t = true) (hK : K + nodes ht t + 5 < zbf) (hp : (Tr.pairs ht t).length <= 1000) :
   Calls Tryz.prog 104 #[.iface 23 (.pointer (some ⟨b, 0, none⟩))] w fun e w' => ∃ f bt m', e = .returned (.tuple #[.pointer (some ⟨f, 0, none⟩), .agg #[P bt, .int .i64 (Tr.pairs ht t).length], .nilIface]) /\ Blk w' f 151 (#[.iface 23 (.pointer (some ⟨b, 0, none⟩))] ++ hd.cells) /\ w.heap.size <= f /\ FRep (fun z => w.heap.size <= z) w' ht t bt [] /\ m'.calm /\ m'.writes = m.writes /\ Dk w' (K + nodes ht t + 3) b g base n (.slice none 0 0) m' (zap bytes cache) [] /\ Only (fun x => x = b \/ x = g) w w' := by
 have hmf : ∀ (fn : Fn) (first cap : Array Value) (w : World), (Instr.makeFunc fn first cap).run Tryz.prog w = .ok (.func fn first cap) w := fun _ _ _ _ => rfl
 have hmm := @run_makeMap Tryz.prog
 have hlen : ∀ i, i < n -> (dread bytes cache i).length = 128 := fun i hi => h.dlen hi
 have HLOAD := zaa (fun (L U : Nat) => zqn (b := b) (g := g) (base := base) (cv := cv) (L := L) (U := U) (G := hd.gen) (by have := (zcr _ 2 hd (zb6 _ hd (hh ▸ List.mem_cons_self ..))).2.1; omega) hlen hn4 ht t noKey none hw hq hnd (fun k hk => by cases hk))
 have HGD := zaa hg
 have H := zaa h
 have HC := zaa hc
 have hmem : hd.slot < 2 /\ hd.gen < 1073741824 /\ 0 < hd.gen := zcr _ 2 hd (zb6 _ hd (hh ▸ List.mem_cons_self ..))
 have HMEM := zaa hmem
 have H3 := zaa (h.below ((((Below.refl _ _).alloc (Nat.le_refl _) (Obj.cells #[.pointer none, .int .i64 0] 88)).alloc (by simp) (Obj.cells #[.nilIface] 31)).alloc (by simp; omega) (Obj.cells #[.iface 23 (.pointer (some ⟨b, 0, none⟩))] 147)))
 have HR := zaa (zko K b g base n cv m bytes cache _ H3.out hc hn (by omega))
 rw [hh] at HR
 unfold vol at HR
 clear h hc hh hmem hlen hw hq hnd hg
 go_enter_defers Tryz.func104, Tryz.ntmps104
 go_wp2_with fail
 refine HR.out.mono ?_
 rintro e w1 ⟨v, rfl, hown, hd1, ho1⟩
 obtain ⟨A, c, rfl, hlc, hcm, hrow, hno⟩ := zan hown
 have hz : w.heap.size + 1 + 1 + 1 <= w1.heap.size := by have := ho1.size; simpa only [World.size_alloc] using this
 have hbl : b < w.heap.size := H.out.at_.lt
 have e0 : Blk w1 w.heap.size 88 #[.pointer none, .int .i64 0] := ho1.blk (((Blk.new w _ _).alloc _).alloc _) (by omega)
 have e1 : Blk w1 (w.heap.size + 1) 31 #[.nilIface] := ho1.blk ((Blk.new2 w _ _ _).alloc _) (by omega)
 have e2 : Blk w1 (w.heap.size + 1 + 1) 147 #[.iface 23 (.pointer (some ⟨b, 0, none⟩))] := ho1.blk (by have := Blk.new2 (w.alloc (Obj.cells #[.pointer none, .int .i64 0] 88)) (Obj.cells #[.nilIface] 31) 147 #[.iface 23 (.pointer (some ⟨b, 0, none⟩))]; rwa [World.size_alloc] at this) (by omega)
 have hoW : Only (fun x => x = b) w w1 := Only.trans ((((Only.refl _ _).alloc _).alloc _).alloc _) ho1
 obtain ⟨gl, cur, rfl, hcur, htk⟩ : ∃ gl cur, A = some ⟨gl, 0, none⟩ /\ Blk w1 gl 149 cur /\ cur.toList.take ((hd :: tl).length * 4) = hcells (hd :: tl) := by
  cases A with
  | none => have := (hno rfl).1; simp at this
  | some a =>
    obtain ⟨_, _, e, cur, hb, _, ht⟩ := hrow a.block rfl
    exact ⟨a.block, cur, e, hb, ht⟩
 have cell : ∀ j v, (hcells (hd :: tl))[j]? = some v -> w1.cell? ⟨gl, j, none⟩ = some v := fun j v hv => by
  rw [hcur.cell, <- Array.getElem?_toList]
  rw [<- htk, List.getElem?_take] at hv
  split at hv
  . exact hv
  . cases hv
 have c0 : w1.cell? ⟨gl, 0, none⟩ = some (.int .i64 hd.slot) := cell 0 _ rfl
 have c1 : w1.cell? ⟨gl, 1, none⟩ = some (.int .u32 hd.gen) := cell 1 _ rfl
 have c2 : w1.cell? ⟨gl, 2, none⟩ = some (.int .i64 hd.blk) := cell 2 _ rfl
 have c3 : w1.cell? ⟨gl, 3, none⟩ = some (.int .u32 hd.rgen) := cell 3 _ rfl
 have l0 : (0 : Int) < ((tl.length : Int) + 1) := by omega
 have lb : decide (0 < (hd :: tl).length) = true := by simp
 have lb2 : 0 < (hd :: tl).length := by simp
 have lb3 : decide ((0 : Int) < ((tl.length : Int) + 1)) = true := by simp
 have v0 := zab e2 0 rfl
 have v0' := fun o => zai o v0
 have v0'' := fun o o1 o2 => zai o2 (zai o1 (zai o v0))
 have t0'' := fun o o1 o2 => zai o2 (zai o1 (zai o (zab e0 0 rfl)))
 have t1'' := fun o o1 o2 => zai o2 (zai o1 (zai o (zab e0 1 rfl)))
 have f0'' : ∀ o o1 o2, (((w1.alloc o).alloc o1).alloc o2).frozen? ⟨w.heap.size, 0, none⟩ = false := fun o o1 o2 => (((e0.alloc o).alloc o1).alloc o2).frozen 0
 have f1'' : ∀ o o1 o2, (((w1.alloc o).alloc o1).alloc o2).frozen? ⟨w.heap.size, 1, none⟩ = false := fun o o1 o2 => (((e0.alloc o).alloc o1).alloc o2).frozen 1
 have HD1 := zaa hd1
 have HO1 := zaa hoW
 have HE0 := zaa e0
 have HE1 := zaa e1
 have HE2 := zaa e2
 have z2 : (0 : Int) < (hd.blk : Int) := by omega
 clear hd1 ho1 hoW e0 e1 e2 hrow hno hown cell htk
 go_wp2
 refine wp_loop_rounds 1 ?_
 rw [rounds_succ]
 go_wp2_with fail
 obtain ⟨W2, hW2⟩ : ∃ W2, W2 = ((w1.alloc (.cells #[.int .i64 hd.slot, .int .u32 hd.gen, .int .i64 hd.blk, .int .u32 hd.rgen] 149)).alloc (.map #[] 0)).alloc (.cells #[.iface 23 (.pointer (some ⟨b, 0, none⟩)), .int .u32 hd.gen, .map (some (w1.heap.size + 1)), .int .i64 0] 231) := ⟨_, rfl⟩
 rw [<- hW2]
 have hb2 : Below w1.heap.size w1 W2 := by rw [hW2]; exact (((Below.refl _ _).alloc (Nat.le_refl _) _).alloc (by simp) _).alloc (by simp; omega) _
 have hz2 : w1.heap.size + 1 + 1 + 1 = W2.heap.size := by rw [hW2]; simp
 have hh2 : Blk W2 w1.heap.size 149 #[.int .i64 hd.slot, .int .u32 hd.gen, .int .i64 hd.blk, .int .u32 hd.rgen] := by rw [hW2]; exact ((Blk.new w1 _ _).alloc _).alloc _
 have hl2 : LrAt W2 (w1.heap.size + 1 + 1) b hd.gen (w1.heap.size + 1) 0 := by
  rw [hW2]
  have := Blk.new ((w1.alloc (.cells #[.int .i64 hd.slot, .int .u32 hd.gen, .int .i64 hd.blk, .int .u32 hd.rgen] 149)).alloc (.map #[] 0)) 231 #[.iface 23 (.pointer (some ⟨b, 0, none⟩)), .int .u32 hd.gen, .map (some (w1.heap.size + 1)), .int .i64 0]
  simp only [World.size_alloc] at this
  exact this
 have hu2 : UsedAt W2 (w1.heap.size + 1) [] := by
  rw [hW2]
  have := UsedAt.new (w1.alloc (.cells #[.int .i64 hd.slot, .int .u32 hd.gen, .int .i64 hd.blk, .int .u32 hd.rgen] 149))
  simp only [World.size_alloc] at this
  exact this.below ((Below.refl _ _).alloc (Nat.le_refl _) _)
 have hgen := HMEM.out.2.1
 have HL := HLOAD.out (w1.heap.size + 1 + 1) (w1.heap.size + 1) (K + 2) (za6 m 2) 0 [] 0 W2 ⟨HD1.out.below hb2, zbg HC.out 2, hl2, hu2, hn, hn4, by omega, by omega, Int.le_refl _, by omega⟩ (by omega) (by omega) (Int.le_refl _) (by omega) (fun x _ h => by cases h)
 rw [htb, htr] at HL
 refine (zqm HGD.out HL).mono ?_
 rintro e w3 ⟨k2, bt, Lu4, rfl, hk2, hd3, ho3, hf3, hl3, hu3, _⟩
 rw [Int.zero_add] at hl3
 have hz3 := ho3.size
 have hgl : g < w.heap.size := H.out.blk.lt
 have j0 := (HE0.out.below hb2 HE0.out.lt).only ho3 (by omega)
 have j1 := (HE1.out.below hb2 HE1.out.lt).only ho3 (by omega)
 have j2 := (HE2.out.below hb2 HE2.out.lt).only ho3 (by omega)
 have jh := hh2.only ho3 (by omega)
 have k0 := zab j0 0 rfl
 have k1 := zab j0 1 rfl
 have k2' := zab j2 0 rfl
 have k3 := zab hl3 3 rfl
 have kf0 : w3.frozen? ⟨w.heap.size, 0, none⟩ = false := j0.frozen 0
 have kf1 : (w3.setCell ⟨w.heap.size, 0, none⟩ (P bt)).frozen? ⟨w.heap.size, 1, none⟩ = false := (j0.set_ 0 (P bt)).frozen 1
 have kc1 : (w3.setCell ⟨w.heap.size, 0, none⟩ (P bt)).cell? ⟨w.heap.size, 1, none⟩ = some (.int .i64 0) := zab (j0.set_ 0 (P bt)) 1 rfl
 have kl3 : (w3.setCell ⟨w.heap.size, 0, none⟩ (P bt)).cell? ⟨w1.heap.size + 1 + 1, 3, none⟩ = some (.int .i64 (Tr.pairs ht t).length) := zab (Blk.only hl3 (Only.set1 w3 w.heap.size 0 (P bt)) (by omega)) 3 rfl
 have HF3 := zaa hf3
 have HD3 := zaa hd3
 have HO3 := zaa ho3
 have HB2 := zaa hb2
 have J0 := zaa j0
 have J1 := zaa j1
 have J2 := zaa j2
 have JH := zaa jh
 clear hW2 hb2 hh2 hl2 hu2 HL hd3 ho3 hf3 hl3 hu3 j0 j1 j2 jh hgen
 unfold P at *
 go_wp2_with fail
 obtain ⟨W3, hW3⟩ : ∃ W3, W3 = (w3.setCell ⟨w.heap.size, 0, none⟩ (.pointer (some ⟨bt, 0, none⟩))).setCell ⟨w.heap.size, 1, none⟩ (.int .i64 (Tr.pairs ht t).length) := ⟨_, rfl⟩
 rw [<- hW3]
 have hoS : Only (fun x => x = w.heap.size) w3 W3 := by rw [hW3]; exact (Only.set1 w3 w.heap.size 0 _).set2 1 _
 have h3e : Blk W3 w.heap.size 88 #[.pointer (some ⟨bt, 0, none⟩), .int .i64 (Tr.pairs ht t).length] := by rw [hW3]; exact (J0.out.set_ 0 _).set_ 1 _
 have hd3 : Dk W3 (K + 2 + k2) b g base n cv (za6 (za6 m 2) k2) bytes cache := HD3.out.only hoS (fun x hx e => by have := H.out.lt hx; omega)
 have hzS := hoS.size
 refine (ze2 (K + 2 + k2) b g base n cv (za6 (za6 m 2) k2) bytes cache W3 hd3 (zbg (zbg HC.out 2) k2).bad (by omega)).mono ?_
 rintro e w4 ⟨rfl, hd4, ho4⟩
 have hz4 := ho4.size
 have i0 := h3e.only ho4 (by omega)
 have i1 := (J1.out.only hoS (by omega)).only ho4 (by omega)
 have i2 := (J2.out.only hoS (by omega)).only ho4 (by omega)
 have i3 := (JH.out.only hoS (by omega)).only ho4 (by omega)
 have hf4 : FRep (fun z => w.heap.size <= z) w4 ht t bt [] := by
  have f1 := HF3.out.only3 (ok := fun z => W2.heap.size <= z) hoS (fun z T cs hz hT e => by
   rw [e] at hz
   refine Blk.ne_ hz J0.out ?_ rfl
   rintro rfl
   rcases hT with h | h | h <;> exact absurd h (by decide))
  have f2 := f1.only3 ho4 (fun z T cs hz hT e => by
   rcases e with e | e
   . refine Blk.ne_ hz hd3.at_ ?_ e
     rintro rfl
     rcases hT with h | h | h <;> exact absurd h (by decide)
   . refine Blk.ne_ hz hd3.blk ?_ e
     rintro rfl
     rcases hT with h | h | h <;> exact absurd h (by decide))
  exact f2.more (fun z hz => by have h9 : W2.heap.size <= z := hz; omega)
 have o1 : Only (fun x => x = b \/ x = g \/ w.heap.size <= x) w1 W2 := Only.of_below HB2.out
 have o2 : Only (fun x => x = b \/ x = g \/ w.heap.size <= x) W2 w3 := HO3.out.mono (fun x _ h => by
  rcases h with h | h | h
  . exact .inl h
  . exact .inr (.inr (by omega))
  . exact .inr (.inr (by omega)))
 have o3 : Only (fun x => x = b \/ x = g \/ w.heap.size <= x) w3 W3 := hoS.mono (fun x _ h => .inr (.inr (by omega)))
 have o4 : Only (fun x => x = b \/ x = g \/ w.heap.size <= x) W3 w4 := ho4.mono (fun x _ h => h.imp id .inl)
 have ho5 : Only (fun x => x = b \/ x = g) w w4 := (HO1.out.mono (fq := fun x => x = b \/ x = g) (fun x _ h => .inl h)).trans' (((o1.trans o2).trans o3).trans o4) (fun x hx h => by
  rcases h with h | h | h
  . exact .inl h
  . exact .inr h
  . omega)
 clear o1 o2 o3 o4
 have d0 := zab i0 0 rfl
 have d1 := zab i0 1 rfl
 have d2 := zab i1 0 rfl
 have d3 := zab i2 0 rfl
 have d4 := zab i3 0 rfl
 have d5 := zab i3 1 rfl
 have d6 := zab i3 2 rfl
 have d7 := zab i3 3 rfl
 have f4 : w4.frozen? ⟨w.heap.size, 0, none⟩ = false := i0.frozen 0
 have f5 : w4.frozen? ⟨w.heap.size, 1, none⟩ = false := i0.frozen 1
 have f6 : w4.frozen? ⟨w.heap.size + 1, 0, none⟩ = false := i1.frozen 0
 have HD4 := zaa hd4
 have HO4 := zaa ho5
 have HI0 := zaa i0
 have HI1 := zaa i1
 have HF4 := zaa hf4
 have hz14 : w1.heap.size + 1 + 1 + 1 <= w4.heap.size := by omega
 clear hd3 hd4 ho4 i0 i1 i2 i3 ho5 hf4 h3e hoS hW3 k0 k1 k2' k3 kf0 kf1 kc1 kl3 hzS hz3 hz2 hz4
 go_upto_region 13 with fail
 refine wp_region_noPanic ?_
 refine wp_region_held_drew (S := fun w' => w'.cell? ⟨w.heap.size + 1 + 1, 0, none⟩ = some (.iface 23 (.pointer (some ⟨b, 0, none⟩))) /\ w'.cell? ⟨w1.heap.size, 0, none⟩ = some (.int .i64 hd.slot) /\ w'.cell? ⟨w1.heap.size, 1, none⟩ = some (.int .u32 hd.gen) /\ w'.cell? ⟨w1.heap.size, 2, none⟩ = some (.int .i64 hd.blk) /\ w'.cell? ⟨w1.heap.size, 3, none⟩ = some (.int .u32 hd.rgen) /\ w'.cell? ⟨w.heap.size, 0, none⟩ = some (.pointer (some ⟨bt, 0, none⟩)) /\ w'.cell? ⟨w.heap.size, 1, none⟩ = some (.int .i64 (Tr.pairs ht t).length)) (by kernel_rfl) ⟨d3, d4, d5, d6, d7, d0, d1⟩ ?_
 intro hS0
 refine zac 0 (.agg #[.iface 23 (.pointer (some ⟨b, 0, none⟩))]) (some 46) rfl rfl (.inl ⟨rfl, fun w' hSw => by have s1 := hSw.1; clear hSw; go_simp⟩) hS0 ?_
 simp only [Act.put, n1, n2, n3]
 refine zac 1 (.agg #[.int .i64 hd.slot, .int .u32 hd.gen, .int .i64 hd.blk, .int .u32 hd.rgen]) (some 47) rfl rfl (.inl ⟨rfl, fun w' hSw => by obtain ⟨_, s1, s2, s3, s4, _⟩ := hSw; go_simp⟩) hS0 ?_
 simp only [Act.put, n1, n2, n3]
 refine zac 2 (.agg #[.iface 23 (.pointer (some ⟨b, 0, none⟩)), .int .i64 hd.slot, .int .u32 hd.gen, .int .i64 hd.blk, .int .u32 hd.rgen]) (some 48) rfl rfl (.inl ⟨rfl, fun w' hSw => by clear hSw; go_simp⟩) hS0 ?_
 simp only [Act.put, n1, n2, n3]
 refine zac 4 (.agg #[.pointer (some ⟨bt, 0, none⟩), .int .i64 (Tr.pairs ht t).length]) (some 50) rfl rfl (.inl ⟨rfl, fun w' hSw => by obtain ⟨_, _, _, _, _, s1, s2⟩ := hSw; go_simp⟩) hS0 ?_
 simp only [Act.put, n1, n2, n3]
 refine zaw (i := 3) (by kernel_rfl) rfl rfl ?_
 go_simp
 have hS0 : (w4.alloc (.cells #[.iface 23 (.pointer (some ⟨b, 0, none⟩)), .int .i64 hd.slot, .int .u32 hd.gen, .int .i64 hd.blk, .int .u32 hd.rgen] 151)).drew.cell? ⟨w.heap.size + 1 + 1, 0, none⟩ = some (.iface 23 (.pointer (some ⟨b, 0, none⟩))) /\ (w4.alloc (.cells #[.iface 23 (.pointer (some ⟨b, 0, none⟩)), .int .i64 hd.slot, .int .u32 hd.gen, .int .i64 hd.blk, .int .u32 hd.rgen] 151)).drew.cell? ⟨w1.heap.size, 0, none⟩ = some (.int .i64 hd.slot) /\ (w4.alloc (.cells #[.iface 23 (.pointer (some ⟨b, 0, none⟩)), .int .i64 hd.slot, .int .u32 hd.gen, .int .i64 hd.blk, .int .u32 hd.rgen] 151)).drew.cell? ⟨w1.heap.size, 1, none⟩ = some (.int .u32 hd.gen) /\ (w4.alloc (.cells #[.iface 23 (.pointer (some ⟨b, 0, none⟩)), .int .i64 hd.slot, .int .u32 hd.gen, .int .i64 hd.blk, .int .u32 hd.rgen] 151)).drew.cell? ⟨w1.heap.size, 2, none⟩ = some (.int .i64 hd.blk) /\ (w4.alloc (.cells #[.iface 23 (.pointer (some ⟨b, 0, none⟩)), .int .i64 hd.slot, .int .u32 hd.gen, .int .i64 hd.blk, .int .u32 hd.rgen] 151)).drew.cell? ⟨w1.heap.size, 3, none⟩ = some (.int .u32 hd.rgen) /\ (w4.alloc (.cells #[.iface 23 (.pointer (some ⟨b, 0, none⟩)), .int .i64 hd.slot, .int .u32 hd.gen, .int .i64 hd.blk, .int .u32 hd.rgen] 151)).drew.cell? ⟨w.heap.size, 0, none⟩ = some (.pointer (some ⟨bt, 0, none⟩)) /\ (w4.alloc (.cells #[.iface 23 (.pointer (some ⟨b, 0, none⟩)), .int .i64 hd.slot, .int .u32 hd.gen, .int .i64 hd.blk, .int .u32 hd.rgen] 151)).drew.cell? ⟨w.heap.size, 1, none⟩ = some (.int .i64 (Tr.pairs ht t).length) := ⟨zai _ d3, zai _ d4, zai _ d5, zai _ d6, zai _ d7, zai _ d0, zai _ d1⟩
 refine ⟨hS0, ?_⟩
 refine zac 5 (.pointer (some ⟨w4.heap.size, 0, none⟩)) (some 2) rfl rfl (.inl ⟨rfl, fun w' hSw => by clear hSw; go_simp⟩) hS0 ?_
 simp only [Act.put, n1, n2, n3]
 have j0 := HI0.out.alloc (.cells #[.iface 23 (.pointer (some ⟨b, 0, none⟩)), .int .i64 hd.slot, .int .u32 hd.gen, .int .i64 hd.blk, .int .u32 hd.rgen] 151)
 have j1 := HI1.out.alloc (.cells #[.iface 23 (.pointer (some ⟨b, 0, none⟩)), .int .i64 hd.slot, .int .u32 hd.gen, .int .i64 hd.blk, .int .u32 hd.rgen] 151)
 refine zaw (i := 6) (by kernel_rfl) rfl rfl ?_
 refine zdu 88 (.tmp 3) (.tmp 50) rfl w.heap.size 0 [.pointer (some ⟨bt, 0, none⟩), .int .i64 (Tr.pairs ht t).length] rfl rfl 88 [.pointer (some ⟨bt, 0, none⟩), .int .i64 (Tr.pairs ht t).length] j0.drew (Nat.le_refl _) znf (by intro v hv; simp at hv; rcases hv with rfl | rfl <;> rfl) ?_
 intro w5 hb5 hg5 hs5
 have hO5 : Only (fun x => x = w.heap.size) w4 w5 := Only.grown (((Only.refl _ _).alloc (.cells #[.iface 23 (.pointer (some ⟨b, 0, none⟩)), .int .i64 hd.slot, .int .u32 hd.gen, .int .i64 hd.blk, .int .u32 hd.rgen] 151)).drew) hg5 fun g' e => .inl (by injection e with e; exact e.symm)
 have hb5 : Blk w5 w.heap.size 88 #[.pointer (some ⟨bt, 0, none⟩), .int .i64 (Tr.pairs ht t).length] := by rw [zff (L := [.pointer (some ⟨bt, 0, none⟩), .int .i64 (Tr.pairs ht t).length]) (cs := [.pointer (some ⟨bt, 0, none⟩), .int .i64 (Tr.pairs ht t).length]) rfl] at hb5; exact hb5
 have hD5 : Blk w5 w4.heap.size 151 #[.iface 23 (.pointer (some ⟨b, 0, none⟩)), .int .i64 hd.slot, .int .u32 hd.gen, .int .i64 hd.blk, .int .u32 hd.rgen] := (Blk.new w4 _ _).drew.grown hg5 (fun e => by injection e; omega)
 have q3 := (hO5.cell (p := ⟨w.heap.size + 1 + 1, 0, none⟩) (show w.heap.size + 1 + 1 < w4.heap.size by omega) (show ¬ (w.heap.size + 1 + 1 = w.heap.size) by omega)).trans d3
 have q4 := (hO5.cell (p := ⟨w1.heap.size, 0, none⟩) (show w1.heap.size < w4.heap.size by omega) (show ¬ (w1.heap.size = w.heap.size) by omega)).trans d4
 have q5 := (hO5.cell (p := ⟨w1.heap.size, 1, none⟩) (show w1.heap.size < w4.heap.size by omega) (show ¬ (w1.heap.size = w.heap.size) by omega)).trans d5
 have q6 := (hO5.cell (p := ⟨w1.heap.size, 2, none⟩) (show w1.heap.size < w4.heap.size by omega) (show ¬ (w1.heap.size = w.heap.size) by omega)).trans d6
 have q7 := (hO5.cell (p := ⟨w1.heap.size, 3, none⟩) (show w1.heap.size < w4.heap.size by omega) (show ¬ (w1.heap.size = w.heap.size) by omega)).trans d7
 have q0 := zab hb5 0 rfl
 have q1 := zab hb5 1 rfl
 have hS0 : w5.cell? ⟨w.heap.size + 1 + 1, 0, none⟩ = some (.iface 23 (.pointer (some ⟨b, 0, none⟩))) /\ w5.cell? ⟨w1.heap.size, 0, none⟩ = some (.int .i64 hd.slot) /\ w5.cell? ⟨w1.heap.size, 1, none⟩ = some (.int .u32 hd.gen) /\ w5.cell? ⟨w1.heap.size, 2, none⟩ = some (.int .i64 hd.blk) /\ w5.cell? ⟨w1.heap.size, 3, none⟩ = some (.int .u32 hd.rgen) /\ w5.cell? ⟨w.heap.size, 0, none⟩ = some (.pointer (some ⟨bt, 0, none⟩)) /\ w5.cell? ⟨w.heap.size, 1, none⟩ = some (.int .i64 (Tr.pairs ht t).length) := ⟨q3, q4, q5, q6, q7, q0, q1⟩
 refine ⟨hS0, ?_⟩
 change wpAnyH _ _ _ _ _ _ _ (Act.put _ none undef) _
 simp only [Act.put]
 have j1 : Blk w5 (w.heap.size + 1) 31 #[.nilIface] := (HI1.out).only hO5 (by omega)
 have k4 : w5.frozen? ⟨w.heap.size + 1, 0, none⟩ = false := j1.frozen 0
 have k5 := zab j1 0 rfl
 refine zaw (i := 7) (by kernel_rfl) rfl rfl ?_
 go_simp
 refine wpAnyH_done (by kernel_rfl) ?_ _
 refine NoPanic.normal ?_
 have HD5 := zaa hD5
 have HJ0 := zaa hb5
 have HJ1 := zaa j1
 have HO5 := zaa hO5
 have hz5 : w4.heap.size + 1 = w5.heap.size := by have := hs5; simpa using this.symm
 clear hD5 hb5 j1 hO5 hg5 hs5 hS0 j0
 go_wp2
 refine leaves_cons (f := 142) (args := #[.pointer (some ⟨w.heap.size + 1, 0, none⟩)]) (by simp) (by simp [go_sem]) ?_
 refine (zyl ⟨w.heap.size + 1, 0, none⟩ _).mono ?_
 rintro e u' w7 ⟨rfl, rfl, rfl⟩
 have oE := Only.set1 w5 (w.heap.size + 1) 0 .nilIface
 have r0 := zab (HJ0.out.only oE (by omega)) 0 rfl
 have r1 := zab (HJ0.out.only oE (by omega)) 1 rfl
 have r2 := zab (HJ1.out.set_ 0 .nilIface) 0 rfl
 refine ⟨.tuple #[.pointer (some ⟨w4.heap.size, 0, none⟩), .agg #[.pointer (some ⟨bt, 0, none⟩), .int .i64 (Tr.pairs ht t).length], .nilIface], by simp [results, Tryz.results104, go_sem, r0, r1, r2], w4.heap.size, bt, (za6 (za6 m 2) k2).tick, rfl, ?_, by omega, ?_, (zbg (zbg HC.out 2) k2).tick, ?_, ?_, ?_⟩
 . have := HD5.out.only oE (by omega)
   exact this
 . have f1 := HF4.out.only3 HO5.out (fun z T cs hz hT e => by
     rw [e] at hz
     refine Blk.ne_ hz HI0.out ?_ rfl
     rintro rfl
     rcases hT with h | h | h <;> exact absurd h (by decide))
   exact f1.only3 oE (fun z T cs hz hT e => by
    rw [e] at hz
    refine Blk.ne_ hz HJ1.out ?_ rfl
    rintro rfl
    rcases hT with h | h | h <;> exact absurd h (by decide))
 . show (za6 (za6 m 2) k2).writes = m.writes
   rw [zg2, zg2]
 . have hlt : ∀ x, dfp b g (.slice none 0 0) x -> x < w.heap.size := fun x hx => by
     rcases hx with h | h | h
     . omega
     . omega
     . simp [Value.ownBlock] at h
   exact ((HD4.out.only HO5.out fun x hx e => by have := hlt x hx; omega).only oE fun x hx e => by have := hlt x hx; omega).more (by omega)
 . refine (HO4.out.trans' (HO5.out.mono (fq := fun x => x = b \/ x = g \/ x = w.heap.size) fun x _ h => .inr (.inr h)) (fun x hx h => by rcases h with h | h | h <;> omega)).setCell (p := ⟨w.heap.size + 1, 0, none⟩) (.inr (by simp)) _
theorem zwi {K K' b g base n : Nat} {cv : Value} {m : Nums} {bytes : List UInt8} {cache : List (Nat × List UInt8)} {w : World} (h : Dk w K b g base n cv m bytes cache) (hf : zfv n = true) (hd : Hd) (ht : Nat) (t : Tr ht)
   (hdo : Calls Tryz.prog 104 #[.iface 23 (.pointer (some ⟨b, 0, none⟩))] w fun e w' => ∃ f bt m', e = .returned (.tuple #[.pointer (some ⟨f, 0, none⟩), .agg #[P bt, .int .i64 (Tr.pairs ht t).length], .nilIface]) /\ Blk w' f 151 (#[.iface 23 (.pointer (some ⟨b, 0, none⟩))] ++ hd.cells) /\ w.heap.size <= f /\ FRep (fun z => w.heap.size <= z) w' ht t bt [] /\ m'.calm /\ m'.writes = m.writes /\ Dk w' K' b g base n (.slice none 0 0) m' (zap bytes cache) [] /\ Only (fun x => x = b \/ x = g) w w') :
   Calls Tryz.prog 38 #[.pointer (some ⟨b, 0, none⟩)] w fun e w' => ∃ x dk rd bt m', e = .returned (.tuple #[.pointer (some ⟨x, 0, none⟩), .nilIface]) /\ DbAt w' x ⟨dk, P bt, (Tr.pairs ht t).length, .pointer none, rd, false⟩ /\ FRep (fun z => w.heap.size <= z /\ z < w'.heap.size) w' ht t bt [] /\ m'.calm /\ RdAt w' rd [] /\ Blk w' dk 151 (#[dev b] ++ hd.cells) /\ w.heap.size <= x /\ w.heap.size <= dk /\ w.heap.size <= rd /\
    Dk w' K' b g base n (.slice none 0 0) m' (zap bytes cache) [] /\ Only (fun x => x = b \/ x = g) w w' := by
 have hmm := @run_makeMap Tryz.prog
 have HF := zaa (zkn b n (zdb bytes) (some ⟨g, 0, none⟩) cv m w h.at_ h.fits)
 have HD := zaa hdo
 unfold zfv at hf
 rw [hf] at HF
 clear h hf hdo
 unfold P at HD
 go_enter Tryz.func38, Tryz.ntmps38
 go_wp2_with (first
  | (go_at_call 65; go_in)
  | (go_at_call 103; refine HF.out.mono ?_; rintro e w' ⟨rfl, rfl⟩)
  | (go_at_call 104; refine HD.out.mono ?_; rintro e w' ⟨f, bt, m', rfl, hb, hz, hfr, hcm, hwr, hd', ho⟩; have HB := zaa hb; have HFR := zaa hfr; have HCM := zaa hcm; have HD' := zaa hd'; have HO := zaa ho; clear hb hd' ho hfr hcm hwr))
 go_ret2
 have hbel : Below w'.heap.size w' (((w'.alloc (.cells #[.pointer (some ⟨bt, 0, none⟩), .int .i64 (Tr.pairs ht t).length] 88)).alloc (.map #[] 0)).alloc (.cells #[.int .i32 0, .int .u32 0, .pointer (some ⟨f, 0, none⟩), .pointer (some ⟨bt, 0, none⟩), .int .i64 (Tr.pairs ht t).length, .pointer none, .map (some (w'.heap.size + 1)), .bool false] 91)) := (((Below.refl _ _).alloc (Nat.le_refl _) _).alloc (by simp) _).alloc (by simp; omega) _
 have hzz := HO.out.size
 have hblk : DbAt (((w'.alloc (.cells #[.pointer (some ⟨bt, 0, none⟩), .int .i64 (Tr.pairs ht t).length] 88)).alloc (.map #[] 0)).alloc (.cells #[.int .i32 0, .int .u32 0, .pointer (some ⟨f, 0, none⟩), .pointer (some ⟨bt, 0, none⟩), .int .i64 (Tr.pairs ht t).length, .pointer none, .map (some (w'.heap.size + 1)), .bool false] 91)) (w'.heap.size + 1 + 1) ⟨f, P bt, (Tr.pairs ht t).length, .pointer none, w'.heap.size + 1, false⟩ := by
  have := Blk.new ((w'.alloc (.cells #[.pointer (some ⟨bt, 0, none⟩), .int .i64 (Tr.pairs ht t).length] 88)).alloc (.map #[] 0)) 91 #[.int .i32 0, .int .u32 0, .pointer (some ⟨f, 0, none⟩), .pointer (some ⟨bt, 0, none⟩), .int .i64 (Tr.pairs ht t).length, .pointer none, .map (some (w'.heap.size + 1)), .bool false]
  unfold DbAt P
  simpa using this
 have hrd : RdAt ((w'.alloc (.cells #[.pointer (some ⟨bt, 0, none⟩), .int .i64 (Tr.pairs ht t).length] 88)).alloc (.map #[] 0)) (w'.heap.size + 1) [] := by
  have := RdAt.new (w'.alloc (.cells #[.pointer (some ⟨bt, 0, none⟩), .int .i64 (Tr.pairs ht t).length] 88))
  simpa using this
 refine ⟨w'.heap.size + 1 + 1, f, w'.heap.size + 1, bt, m', rfl, hblk, ?_, HCM.out, hrd.only ((Only.refl (fun _ => False) _).alloc _) id, HB.out.below hbel HB.out.lt, by omega, hz, by omega, HD'.out.below hbel, HO.out.below hbel⟩
 exact (HFR.out.lt.below hbel (ok' := fun z => w.heap.size <= z /\ z < w'.heap.size) (fun z hz => hz)).more (fun z hz => ⟨hz.1, by have := hbel.size; omega⟩)
end Go.Proofs.YtemondlgcmpbbaaGreatDoor
