/- Ke Kh Ki Pd: merged. -/
import Derived.Test.YtemondlgcmpbbaaGreatDoorMP23
import Derived.Test.YtemondlgcmpbbaaGreatDoorMP20
import Derived.Deep.DeepCutAuto
import Derived.Test.YtemondlgcmpbbaaGreatDoorMP24
import Derived.Deep.CutBlock
import Derived.Test.YtemondlgcmpbbaaGreatDoorMP15
namespace Go.Proofs.YtemondlgcmpbbaaGreatDoor
open Go.RowKit
set_option maxRecDepth 100000
def zb2 (R : List (Tree × Value × List Nat)) (T : Tree) : List Nat := T.cblks.foldl ins ((R.flatMap fun r => r.1.blks).foldl ins [])
structure zie (w : World) (K b g base n : Nat) (cv : Value) (m : Nums) (bytes : List UInt8) (cache : List (Nat × List UInt8)) (dk : Nat) (hd : Hd) (T : Tree) (rp : Value) (ds : List Nat) (A : Option Addr) (c : Nat) (R : List (Tree × Value × List Nat)) : Prop where
 disk : Dk w K b g base n cv m bytes cache
 glob : m.calm \/ (Glob w /\ ¬ dfp b g cv 0)
 dkb : Blk w dk 151 (#[dev b] ++ hd.cells)
 tree : TreeV (fun z => z < w.heap.size) w T rp ds
 nd : ds.Nodup
 rds : ∀ i (hi : i < R.length), ∃ gr o, A = some ⟨gr, o, none⟩ /\ gr < w.heap.size /\ w.cell? ⟨gr, o + i * 2, none⟩ = some R[i].2.1 /\ w.cell? ⟨gr, o + i * 2 + 1, none⟩ = some (.int .i64 R[i].1.keys) /\ TreeV (fun z => z < w.heap.size) w R[i].1 R[i].2.1 R[i].2.2
 few : R.length <= 10 /\ R.length <= c /\ c <= maxLen
 size : 8 <= n /\ n <= 400
 slot : hd.slot < 2
 gen : hd.gen + 1 < 1073741824
 fit : TN (fun h n => Tr.size h n <= 116 /\ (h = 0 \/ 1 <= Tr.len h n)) T
 small : TN zc4 T
 room : ds.length <= (fr (zb2 R T) n 2).length
 num : K + ds.length + 10 < zbf
 cache_ : cache.length < 80000
structure ComX (H : Nat) (rp : Value) (keys : Int) (h' : Array Value) (W : World) : Prop where
 t4 : Blk W H 88 #[rp, .int .i64 keys]
 e6 : Blk W (H + 1) 31 #[.nilIface]
 h7 : Blk W (H + 1 + 1) 149 h'
theorem ComX.keep {H : Nat} {rp : Value} {keys : Int} {h' : Array Value} {W W' : World} (h : ComX H rp keys h' W) (hk : ∀ y T cs, Blk W y T cs -> T ≠ 86 -> T ≠ 156 -> Blk W' y T cs) : ComX H rp keys h' W' :=
 ⟨hk _ _ _ h.t4 (by decide) (by decide), hk _ _ _ h.e6 (by decide) (by decide), hk _ _ _ h.h7 (by decide) (by decide)⟩
def zm7 (w : World) (rp : Value) (keys sl gn : Int) : World := ((((((w.alloc (.cells #[rp, .int .i64 keys] 88)).alloc (.cells #[.nilIface] 31)).alloc (.cells #[.int .i64 sl, .int .u32 gn, .int .i64 0, .int .u32 0] 149)).alloc (.map #[] 0)).alloc (.cells #[.map (some (w.heap.size + 1 + 1 + 1))] 155)).alloc (.cells #[.slice none 0 0] 156)).drew
theorem zv9 (w : World) (rp : Value) (keys sl gn : Int) : Below w.heap.size w (zm7 w rp keys sl gn) /\ ComX w.heap.size rp keys #[.int .i64 sl, .int .u32 gn, .int .i64 0, .int .u32 0] (zm7 w rp keys sl gn) /\
   UsedJ w.heap.size (w.heap.size + 1 + 1 + 1 + 1) (w.heap.size + 1 + 1 + 1) [] (zm7 w rp keys sl gn) /\ Blk (zm7 w rp keys sl gn) (w.heap.size + 1 + 1 + 1 + 1 + 1) 156 #[.slice none 0 0] := by
 unfold zm7
 obtain ⟨W1, hW1⟩ : ∃ W, W = w.alloc (.cells #[rp, .int .i64 keys] 88) := ⟨_, rfl⟩
 have z1 : W1.heap.size = w.heap.size + 1 := by rw [hW1]; exact World.size_alloc _ _
 have b1 : Blk W1 w.heap.size 88 #[rp, .int .i64 keys] := by rw [hW1]; exact Blk.new _ _ _
 have l1 : Below w.heap.size w W1 := by rw [hW1]; exact (Below.refl _ _).alloc (Nat.le_refl _) _
 rw [<- hW1]
 obtain ⟨W2, hW2⟩ : ∃ W, W = W1.alloc (.cells #[.nilIface] 31) := ⟨_, rfl⟩
 have z2 : W2.heap.size = w.heap.size + 1 + 1 := by rw [hW2, World.size_alloc, z1]
 have b2 : Blk W2 (w.heap.size + 1) 31 #[.nilIface] := by rw [hW2, <- z1]; exact Blk.new _ _ _
 have l2 : Below w.heap.size w W2 := by rw [hW2]; exact l1.alloc (by omega) _
 have b1 : Blk W2 w.heap.size 88 #[rp, .int .i64 keys] := by rw [hW2]; exact b1.alloc _
 rw [<- hW2]
 obtain ⟨W3, hW3⟩ : ∃ W, W = W2.alloc (.cells #[.int .i64 sl, .int .u32 gn, .int .i64 0, .int .u32 0] 149) := ⟨_, rfl⟩
 have z3 : W3.heap.size = w.heap.size + 1 + 1 + 1 := by rw [hW3, World.size_alloc, z2]
 have b3 : Blk W3 (w.heap.size + 1 + 1) 149 #[.int .i64 sl, .int .u32 gn, .int .i64 0, .int .u32 0] := by rw [hW3, <- z2]; exact Blk.new _ _ _
 have l3 : Below w.heap.size w W3 := by rw [hW3]; exact l2.alloc (by omega) _
 have b2 : Blk W3 (w.heap.size + 1) 31 #[.nilIface] := by rw [hW3]; exact b2.alloc _
 have b1 : Blk W3 w.heap.size 88 #[rp, .int .i64 keys] := by rw [hW3]; exact b1.alloc _
 rw [<- hW3]
 obtain ⟨W4, hW4⟩ : ∃ W, W = W3.alloc (.map #[] 0) := ⟨_, rfl⟩
 have z4 : W4.heap.size = w.heap.size + 1 + 1 + 1 + 1 := by rw [hW4, World.size_alloc, z3]
 have u4 : UsedAt W4 (w.heap.size + 1 + 1 + 1) [] := by rw [hW4, <- z3]; exact UsedAt.new _
 have l4 : Below W3.heap.size W3 W4 := by rw [hW4]; exact (Below.refl _ _).alloc (Nat.le_refl _) _
 have b3 := b3.below l4 b3.lt
 have b2 := b2.below l4 b2.lt
 have b1 := b1.below l4 b1.lt
 rw [<- hW4]
 obtain ⟨W5, hW5⟩ : ∃ W, W = W4.alloc (.cells #[.map (some (w.heap.size + 1 + 1 + 1))] 155) := ⟨_, rfl⟩
 have z5 : W5.heap.size = w.heap.size + 1 + 1 + 1 + 1 + 1 := by rw [hW5, World.size_alloc, z4]
 have b5 : Blk W5 (w.heap.size + 1 + 1 + 1 + 1) 155 #[.map (some (w.heap.size + 1 + 1 + 1))] := by rw [hW5, <- z4]; exact Blk.new _ _ _
 have l5 : Below W4.heap.size W4 W5 := by rw [hW5]; exact (Below.refl _ _).alloc (Nat.le_refl _) _
 have b3 := b3.below l5 b3.lt
 have b2 := b2.below l5 b2.lt
 have b1 := b1.below l5 b1.lt
 have u5 := u4.below l5
 rw [<- hW5]
 obtain ⟨W6, hW6⟩ : ∃ W, W = W5.alloc (.cells #[.slice none 0 0] 156) := ⟨_, rfl⟩
 have b6 : Blk W6 (w.heap.size + 1 + 1 + 1 + 1 + 1) 156 #[.slice none 0 0] := by rw [hW6, <- z5]; exact Blk.new _ _ _
 have l6 : Below W5.heap.size W5 W6 := by rw [hW6]; exact (Below.refl _ _).alloc (Nat.le_refl _) _
 rw [<- hW6]
 refine ⟨(((l3.trans (l4.mono l3.size)).trans (l5.mono (by omega))).trans (l6.mono (by omega))).drew, ⟨(b1.below l6 b1.lt).drew, (b2.below l6 b2.lt).drew, (b3.below l6 b3.lt).drew⟩, ⟨(b5.below l6 b5.lt).drew, u5.below l6.drew, by omega, by omega⟩, b6.drew⟩
def zwa : Nat -> Code -> Code
 | 0, c => c
 | n + 1, .seq _ y => zwa n y
 | _ + 1, _ => .skip
noncomputable def zld (k : Nat) : Code := zwa k ((Tryz.f60.body).getD .skip)
theorem Dk.ne {w : World} {K b g base n : Nat} {cv : Value} {m : Nums} {bytes : List UInt8} {cache : List (Nat × List UInt8)} (h : Dk w K b g base n cv m bytes cache) {y : Nat} {T : TypeId} {cs : Array Value} (hy : Blk w y T cs) (h1 : T ≠ 103) (h2 : T ≠ 111) (h3 : T ≠ 113) : ¬ dfp b g cv y := by
 rintro (e | e | e)
 . exact Blk.ne_ hy h.at_ h1 e
 . exact Blk.ne_ hy h.blk h2 e
 . exact zag h.own hy (fun e => h3 e.symm) e.symm
theorem zxt (K b g base n i k c : Nat) (A : Option Addr) (cv : Value) (m : Nums) (bytes data : List UInt8) (cache : List (Nat × List UInt8)) (w : World) (h : Dk w K b g base n cv m bytes cache) (hb : m.bad = false) (hi : i < n) (hK : K < zbf)
 (hr : SlU w A k c data) (hk : k <= 128) (hm : cache.length < 90000) :
 Calls Tryz.prog 92 #[.agg #[.iface 23 (.pointer (some ⟨b, 0, none⟩))], .int .i64 i, .slice A k c] w fun e w' => ∃ cv', e = .returned (.tuple #[]) /\ Dk w' (K + 1) b g base n cv' m.wrote bytes (cache ++ [(i, pad 128 data)]) /\
  Only (dfp b g cv) w w' /\ ∀ x, dfp b g cv' x -> dfp b g cv x \/ w.heap.size <= x := zlm K b g base n i k c A cv m bytes data cache w h hb hi hK hr hk hm
theorem zmh (K b g base n i k c : Nat) (A : Option Addr) (cv : Value) (m : Nums) (bytes data : List UInt8) (cache : List (Nat × List UInt8)) (w : World) (h : Dk w K b g base n cv m bytes cache) (hi : i < n) (hK : K < zbf)
   (hr : SlU w A k c data) (hk : k <= 128) (hm : cache.length < 90000) :
   Calls Tryz.prog 92 #[.agg #[.iface 23 (.pointer (some ⟨b, 0, none⟩))], .int .i64 i, .slice A k c] w fun e w' => (∃ cv', e = .returned (.tuple #[]) /\ m.bad = false /\ Dk w' (K + 1) b g base n cv' m.wrote bytes (cache ++ [(i, pad 128 data)]) /\
    Only (dfp b g cv) w w' /\ ∀ x, dfp b g cv' x -> dfp b g cv x \/ w.heap.size <= x) \/ (m.bad = true /\ ∃ f, e = thrown f /\ zen w' f /\ Dk w' (K + 1) b g base n cv m.tick bytes cache /\ Only (· = b) w w') := by
 cases hb : m.bad with
 | false => exact (zxt K b g base n i k c A cv m bytes data cache w h hb hi hK hr hk hm).mono fun e w' ⟨cv', h1, h2⟩ => .inl ⟨cv', h1, rfl, h2⟩
 | true => exact (zuj K b g base n _ _ cv m bytes cache w h hb hK).mono fun e w' ⟨f, h1, h2, _, h3⟩ => .inr ⟨rfl, f, h1, h2, h3⟩
theorem zmi (K b g base n : Nat) (cv : Value) (m : Nums) (bytes : List UInt8) (cache : List (Nat × List UInt8)) (w : World) (h : Dk w K b g base n cv m bytes cache) (hK : K < zbf) :
   Calls Tryz.prog 94 #[.agg #[.iface 23 (.pointer (some ⟨b, 0, none⟩))]] w fun e w' => (e = .returned (.tuple #[]) /\ m.bad = false /\ Dk w' (K + 1) b g base n (.slice none 0 0) m.tick (zap bytes cache) [] /\ Only (fun x => x = b \/ x = g) w w') \/ (m.bad = true /\ ∃ f, e = thrown f /\ zen w' f /\ Dk w' (K + 1) b g base n cv m.tick bytes cache /\ Only (· = b) w w') := by
 cases hb : m.bad with
 | false => exact (ze2 K b g base n cv m bytes cache w h hb hK).mono fun e w' ⟨h1, h2⟩ => .inl ⟨h1, rfl, h2⟩
 | true => exact (zuk K b g base n cv m bytes cache w h hb hK).mono fun e w' ⟨f, h1, h2, _, h3⟩ => .inr ⟨rfl, f, h1, h2, h3⟩
structure ComMid (W : World) (H K b g base n : Nat) (cv : Value) (m : Nums) (bytes : List UInt8) (cache : List (Nat × List UInt8)) (dk : Nat) (hd : Hd) (ds : List Nat) (s : Nat -> NdS) : Prop where
 disk : Dk W K b g base n cv m bytes cache
 glob : m.calm \/ (Glob W /\ ¬ dfp b g cv 0)
 dkb : Blk W dk 151 (#[dev b] ++ hd.cells)
 e6 : Blk W (H + 1) 31 #[.nilIface]
 dirt : ∃ v, Blk W (H + 1 + 1 + 1 + 1 + 1) 156 #[v] /\ W.ownsRow H 86 1 v ds.length (ds.map P)
 nodes : ∀ j (hj : j < ds.length), zb3 W ds[j] (s j)
 nd : ds.Nodup
 low : ∀ y ∈ ds, y < H
 dkl : dk < H
 few : ds.length <= 1000
 size : 2 <= n
 num : K + 5 < zbf
 H_ : H + 5 < W.heap.size
theorem Glob.node {w : World} {y : Nat} {s : NdS} (hg : Glob w) (h : zb3 w y s) : y ≠ 0 := fun e => by
 subst e
 have h1 := zab h 0 rfl
 rw [hg] at h1
 cases h1
def Later (m m1 : Nums) : Prop := m1.off = m.off /\ m1.bfrom = m.bfrom /\ m1.bto = m.bto /\ m.calls <= m1.calls
theorem Later.refl (m : Nums) : Later m m := ⟨rfl, rfl, rfl, Int.le_refl _⟩
theorem Later.tick {m m1 : Nums} (h : Later m m1) : Later m m1.tick := ⟨h.1, h.2.1, h.2.2.1, show m.calls <= m1.calls + 1 by have := h.2.2.2; omega⟩
theorem Later.wrote {m m1 : Nums} (h : Later m m1) : Later m m1.wrote := h.tick
theorem Later.trans {m m1 m2 : Nums} (h : Later m m1) (k : Later m1 m2) : Later m m2 := ⟨k.1.trans h.1, k.2.1.trans h.2.1, k.2.2.1.trans h.2.2.1, Int.le_trans h.2.2.2 k.2.2.2⟩
theorem Later.calm {m m1 : Nums} (h : Later m m1) (hc : m.calm) : m1.calm := ⟨by rw [h.1]; exact hc.1, by rw [h.2.2.1]; exact Int.le_trans hc.2 h.2.2.2⟩
def zde (m : Nums) : Nat -> Nums
 | 0 => m
 | k + 1 => (zde m k).wrote
theorem zd6 (m : Nums) : ∀ k, Later m (zde m k)
 | 0 => .refl m
 | k + 1 => (zd6 m k).wrote
def CutAt (D : Nat) (bytes : List UInt8) (cache WL : List (Nat × List UInt8)) (hw : Nat × List UInt8) (bytes' : List UInt8) (cache' : List (Nat × List UInt8)) : Prop :=
 (∃ j, j <= D /\ bytes' = bytes /\ cache' = cache ++ WL.take j) \/ (bytes' = zap bytes (cache ++ WL) /\ (cache' = [] \/ cache' = [hw]))
def ComEnd (F : Nat -> Prop) (H K D b g base n : Nat) (m : Nums) (bytes : List UInt8) (cache WL : List (Nat × List UInt8)) (dk : Nat) (hd : Hd) (ds : List Nat) (s : Nat -> NdS) (sl gn rb rg : Nat) (W : World) (e : Ending) (w' : World) : Prop :=
 (e = .returned .nilIface /\ Dk w' (K + D + 3) b g base n (.slice none 0 0) (zde m D).tick.wrote.tick (zcp (zap bytes (cache ++ WL)) (sl, pad 128 (zam gn rb rg))) [] /\ Blk w' dk 151 (#[dev b] ++ zay sl gn rb rg) /\
  (∀ j (hj : j < ds.length), zb3 w' ds[j] { s j with dirty := false }) /\ Only (fun y => F y \/ y = dk \/ y ∈ ds \/ H <= y) W w') \/
 ∃ m1 f cv' bytes' cache', m1.bad = true /\ Later m m1 /\ e = .returned (zau f) /\ zbj w' f zgp 8 /\ Glob w' /\ H <= f /\ Dk w' (K + D + 3) b g base n cv' m1.tick bytes' cache' /\ CutAt D bytes cache WL (sl, pad 128 (zam gn rb rg)) bytes' cache' /\ Blk w' dk 151 (#[dev b] ++ hd.cells) /\
   (∀ j (hj : j < ds.length), zb3 w' ds[j] { s j with dirty := true }) /\ Only (fun y => F y \/ y = dk \/ y ∈ ds \/ H <= y) W w'
theorem ComEnd.up {F : Nat -> Prop} {H K b g base n D : Nat} {m : Nums} {bytes : List UInt8} {cache WL : List (Nat × List UInt8)} {dk : Nat} {hd : Hd} {ds : List Nat} {s : Nat -> NdS} {sl gn rb rg : Nat} {W : World} {e : Ending} {w' : World} (hD : WL.length = D) (h : ComEnd F H (K + D) 0 b g base n (zde m D) bytes (cache ++ WL) [] dk hd ds s sl gn rb rg W e w') : ComEnd F H K D b g base n m bytes cache WL dk hd ds s sl gn rb rg W e w' := by
 subst hD
 rcases h with ⟨h1, h2, h3⟩ | ⟨m1, f, cv', bytes', cache', h1, h2, h3, h4, h9, h5, h6, h7, h8⟩
 . rw [List.append_nil] at h2
   exact .inl ⟨h1, h2, h3⟩
 . refine .inr ⟨m1, f, cv', bytes', cache', h1, (zd6 m _).trans h2, h3, h4, h9, h5, h6, ?_, h8⟩
   rcases h7 with ⟨j, hj, e1, e2⟩ | ⟨e1, e2⟩
   . exact .inl ⟨WL.length, Nat.le_refl _, e1, by rw [e2, List.take_length]; simp⟩
   . rw [List.append_nil] at e1
     exact .inr ⟨e1, e2⟩
theorem ComMid.thrown {R : Ending -> World -> Prop} {F : Nat -> Prop} {H K D b g base n : Nat} {cv : Value} {m : Nums} {bytes : List UInt8} {cache WL : List (Nat × List UInt8)} {dk : Nat} {hd : Hd} {ds : List Nat} {s : Nat -> NdS} {sl gn rb rg : Nat} {W₀ W : World} (h : ComMid W H K b g base n cv m bytes cache dk hd ds s) (hF : ∀ x, dfp b g cv x -> F x \/ H <= x) (hW : Only (fun y => F y \/ y = dk \/ y ∈ ds \/ H <= y) W₀ W) (hR : ∀ e w', ComEnd F H K D b g base n m bytes cache WL dk hd ds s sl gn rb rg W₀ e w' -> R e w')
   {w3 : World} {f K' : Nat} {cv' : Value} {m1 : Nums} {bytes' : List UInt8} {cache' : List (Nat × List UInt8)} {fp : Nat -> Prop} (hf : zen w3 f) (hD : Dk w3 K' b g base n cv' m1.tick bytes' cache') (hK' : K' <= K + D + 3) (hb : m1.bad = true) (hl : Later m m1) (hcut : CutAt D bytes cache WL (sl, pad 128 (zam gn rb rg)) bytes' cache')
   (ho : Only fp W w3) (hfp : ∀ x, x < W.heap.size -> fp x -> dfp b g cv x) {a : Act} (ha : a.defers = [{ target := .fn (.func 90) #[.pointer (some ⟨H + 1, 0, none⟩), .pointer (some ⟨H + 1 + 1 + 1 + 1 + 1, 0, none⟩)], args := #[] }]) (h6 : a.tmps[6]? = some (.pointer (some ⟨H + 1, 0, none⟩))) :
   bodyPostD Tryz.prog Tryz.f60 R (.panic [{ v := .iface 128 (.pointer (some ⟨f, 0, none⟩)), recovered := false }]) a w3 := by
 obtain ⟨tmps, dfs⟩ := a
 simp only at ha h6
 subst ha
 have hg : Glob w3 := by
  rcases h.glob with hc | ⟨hg, h0⟩
  . rw [(hl.calm hc).bad] at hb; cases hb
  . exact hg.only ho fun e => h0 (hfp 0 hg.pos e)
 have k : ∀ {y T cs}, Blk W y T cs -> T ≠ 103 -> T ≠ 111 -> T ≠ 113 -> Blk w3 y T cs := fun hy a1 a2 a3 => hy.only ho fun e => h.disk.ne hy a1 a2 a3 (hfp _ hy.lt e)
 obtain ⟨v, hv, hown⟩ := h.dirt
 have he3 := k h.e6 (by decide) (by decide) (by decide)
 have hn3 : ∀ j (hj : j < ds.length), zb3 w3 ds[j] (s j) := fun j hj => k (h.nodes j hj) (by decide) (by decide) (by decide)
 have hdk3 := k h.dkb (by decide) (by decide) (by decide)
 refine leaves_cons (f := 90) (args := #[.pointer (some ⟨H + 1, 0, none⟩), .pointer (some ⟨H + 1 + 1 + 1 + 1 + 1, 0, none⟩)]) (by simp) (by simp [go_sem]) ?_
 refine (zrz H (H + 1) (H + 1 + 1 + 1 + 1 + 1) f v ds s w3 hf hg he3 (k hv (by decide) (by decide) (by decide)) (za0 hown ho fun y cs hy e => h.disk.ne hy (by decide) (by decide) (by decide) (hfp _ (Blk.lt hy) e)) h.nd h.few hn3 h.low ⟨by omega, by omega⟩).mono ?_
 rintro e u' w8 ⟨rfl, rfl, f', hf8, hz8, he8, hn8, ho8⟩
 have m8 := zab he8 0 rfl
 refine ⟨zau f', by simp [results, Tryz.results60, go_sem, h6, m8], hR _ _ (.inr ⟨m1, f', cv', bytes', cache', hb, hl, rfl, hf8, hg.only ho8 (fun e => e.elim (fun e => by omega) fun e => by obtain ⟨j, hj, e⟩ := List.getElem_of_mem e; exact hg.node (hn3 j hj) e), by have := h.H_; have := ho.size; omega, ?_, hcut, ?_, hn8, ?_⟩)⟩
 . refine (hD.only ho8 fun x hx e => ?_).more (by omega)
   rcases e with rfl | e
   . exact hD.ne he3 (by decide) (by decide) (by decide) hx
   . obtain ⟨j, hj, rfl⟩ := List.getElem_of_mem e
     exact hD.ne (hn3 j hj) (by decide) (by decide) (by decide) hx
 . refine hdk3.only ho8 fun e => ?_
   rcases e with e | e
   . have := h.dkl; omega
   . obtain ⟨j, hj, e⟩ := List.getElem_of_mem e
     exact Blk.ne_ hdk3 (hn3 j hj) (by decide) e.symm
 . exact hW.trans ((ho.mono fun x hx e => (hF x (hfp x hx e)).elim .inl fun h => .inr (.inr (.inr h))).trans (ho8.mono fun x _ e => e.elim (fun e => .inr (.inr (.inr (by omega)))) fun e => .inr (.inr (.inl e))))
set_option maxHeartbeats 6400000 in
theorem zxu (R : Ending -> World -> Prop) (F : Nat -> Prop) (H K b g base n : Nat) (cv : Value) (m : Nums) (bytes : List UInt8) (cache : List (Nat × List UInt8)) (dk : Nat) (hd : Hd) (ds : List Nat) (s : Nat -> NdS) (sl gn rb rg : Nat) (W₀ W : World) (hF : ∀ x, dfp b g cv x -> F x \/ H <= x) (hW : Only (fun y => F y \/ y = dk \/ y ∈ ds \/ H <= y) W₀ W) (h : ComMid W H K b g base n cv m bytes cache dk hd ds s)
   (h7 : Blk W (H + 1 + 1) 149 (zay sl gn rb rg)) (hsl : sl < 2) (hgn : gn < 4294967296) (hrb : rb < 4294967296) (hrg : rg < 4294967296) (hR : ∀ e w', ComEnd F H K 0 b g base n m bytes cache [] dk hd ds s sl gn rb rg W₀ e w' -> R e w')
   (u1 u2 u3 u5 u10 u11 u12 u13 u14 u15 u16 u17 u18 u19 u20 u21 u22 u23 u24 u25 u26 u27 u28 u29 u30 u31 u32 u33 u34 u35 u36 u37 u38 u39 u40 u41 u42 u43 u44 u45 u46 u47 u48 u49 u50 u51 u52 u53 u54 u55 u56 u57 u58 u59 u60 u61 u62 u63 u64 u65 u66 u67 u68 u69 u70 u71 u72 u73 u74 u75 u76 u77 u78 u79 u80 u81 u82 u83 u84 u85 u86 u87 u88 u89 u90 u91 u92 u93 u94 u95 u96 u97 u98 u99 u100 u101 u102 u103 u104 u105 u106 u107 u108 u109 u110 u111 u112 u113 u114 u115 u116 u117 u118 u119 u120 u121 u122 u123 u124 u125 u126 u127 u128 u129 u130 u131 u132 u133 u134 u135 u136 u137 u138 u139 : Value) :
   Code.wp Tryz.prog (zld 11) (bodyPostD Tryz.prog Tryz.f60 R) ⟨#[.pointer (some ⟨dk, 0, none⟩), u1, u2, u3, .pointer (some ⟨H, 0, none⟩), u5, .pointer (some ⟨H + 1, 0, none⟩), .pointer (some ⟨H + 1 + 1, 0, none⟩), .pointer (some ⟨H + 1 + 1 + 1 + 1, 0, none⟩), .pointer (some ⟨H + 1 + 1 + 1 + 1 + 1, 0, none⟩), u10, u11, u12, u13, u14, u15, u16, u17, u18, u19, u20, u21, u22, u23, u24, u25, u26, u27, u28, u29, u30, u31, u32, u33, u34, u35, u36, u37, u38, u39, u40, u41, u42, u43, u44, u45, u46, u47, u48, u49, u50, u51, u52, u53, u54, u55, u56, u57, u58, u59, u60, u61, u62, u63, u64, u65, u66, u67, u68, u69, u70, u71, u72, u73, u74, u75, u76, u77, u78, u79, u80, u81, u82, u83, u84, u85, u86, u87, u88, u89, u90, u91, u92, u93, u94, u95, u96, u97, u98, u99, u100, u101, u102, u103, u104, u105, u106, u107, u108, u109, u110, u111, u112, u113, u114, u115, u116, u117, u118, u119, u120, u121, u122, u123, u124, u125, u126, u127, u128, u129, u130, u131, u132, u133, u134, u135, u136, u137, u138, u139], [{ target := .fn (.func 90) #[.pointer (some ⟨H + 1, 0, none⟩), .pointer (some ⟨H + 1 + 1 + 1 + 1 + 1, 0, none⟩)], args := #[] }]⟩ W := by
 have c0 : W.cell? ⟨dk, 0, none⟩ = some (.iface 23 (.pointer (some ⟨b, 0, none⟩))) := zab h.dkb 0 rfl
 have FL := zaa (zmi K b g base n cv m bytes cache W h.disk (by have := h.num; omega))
 have HR := zaa hR
 have H7 := zaa h7
 have H0 := zaa h
 clear h h7 hR
 conv => arg 2; whnf
 go_wp2_with fail
 refine FL.out.mono ?_
 unfold thrown
 rintro e w3 (⟨rfl, hb0, hd3, ho3⟩ | ⟨hb0, f, rfl, hf3, hd3, ho3⟩)
 rotate_left
 . exact H0.out.thrown hF hW HR.out hf3 hd3 (show K + 1 <= K + 0 + 3 by omega) hb0 (.refl m) (.inl ⟨0, Nat.le_refl _, rfl, by simp⟩) ho3 (fun x _ e => .inl e) rfl rfl
 have hfp3 : ∀ {y T cs}, Blk W y T cs -> T ≠ 103 -> T ≠ 111 -> T ≠ 113 -> Blk w3 y T cs := fun hy a1 a2 a3 => hy.only ho3 fun e => H0.out.disk.ne hy a1 a2 a3 (e.imp id .inl)
 have k3 : Blk w3 dk 151 (#[dev b] ++ hd.cells) := hfp3 H0.out.dkb (by decide) (by decide) (by decide)
 have k7 : Blk w3 (H + 1 + 1) 149 (zay sl gn rb rg) := hfp3 H7.out (by decide) (by decide) (by decide)
 have hbl : dfp b g (.slice none 0 0) b /\ dfp b g (.slice none 0 0) g := ⟨.inl rfl, .inr (.inl rfl)⟩
 have HSS : ∀ a w' : World, (∀ {y T cs}, Blk a y T cs -> T ≠ 103 -> T ≠ 111 -> T ≠ 113 -> Blk w' y T cs) -> Blk a dk 151 (#[dev b] ++ hd.cells) -> Blk a (H + 1 + 1) 149 (zay sl gn rb rg) -> Blk w' dk 151 (#[dev b] ++ hd.cells) /\ Blk w' (H + 1 + 1) 149 (zay sl gn rb rg) := fun a w' hk h1 h2 => ⟨hk h1 (by decide) (by decide) (by decide), hk h2 (by decide) (by decide) (by decide)⟩
 have HCC : ∀ w' : World, Blk w' dk 151 (#[dev b] ++ hd.cells) -> Blk w' (H + 1 + 1) 149 (zay sl gn rb rg) -> (w'.cell? ⟨dk, 0, none⟩ = some (.iface 23 (.pointer (some ⟨b, 0, none⟩))) /\ w'.cell? ⟨H + 1 + 1, 0, none⟩ = some (.int .i64 sl) /\ w'.cell? ⟨H + 1 + 1, 1, none⟩ = some (.int .u32 gn) /\ w'.cell? ⟨H + 1 + 1, 2, none⟩ = some (.int .i64 rb) /\ w'.cell? ⟨H + 1 + 1, 3, none⟩ = some (.int .u32 rg)) :=
  fun w' h1 h2 => ⟨zab h1 0 rfl, zab h2 0 rfl, zab h2 1 rfl, zab h2 2 rfl, zab h2 3 rfl⟩
 have S3 := zaa (HCC w3.drew k3.drew k7.drew)
 have HSS' := zaa HSS
 have HCC' := zaa HCC
 have K3 := zaa k3
 have K7 := zaa k7
 have HD3 := zaa hd3
 have HO3 := zaa ho3
 have HFP3 := zaa (show ∀ y T cs, Blk W y T cs -> T ≠ 103 -> T ≠ 111 -> T ≠ 113 -> Blk w3 y T cs from fun _ _ _ a b c d => hfp3 a b c d)
 have HNUM := zaa H0.out.num
 have HSZ := zaa H0.out.size
 have HOW3 := zaa (show Only (dfp b g (.slice none 0 0)) W w3 from ho3.mono fun x _ e => e.elim .inl fun e => .inr (.inl e))
 have HFP0 := zaa (show ∀ x, x < W.heap.size -> dfp b g (.slice none 0 0) x -> dfp b g cv x from fun x _ e => e.elim .inl fun e => e.elim (fun e => .inr (.inl e)) fun e => by simp [Value.ownBlock] at e)
 clear HSS HCC k3 k7 hd3 ho3 hfp3 hbl c0
 have HBY := zaa (fun w => zih sl gn rb rg w hgn hrb hrg)
 unfold zay at HBY
 go_wp2_with fail
 refine zga (v6 := .pointer (some ⟨H + 1, 0, none⟩)) (D := [{ target := .fn (.func 90) #[.pointer (some ⟨H + 1, 0, none⟩), .pointer (some ⟨H + 1 + 1 + 1 + 1 + 1, 0, none⟩)], args := #[] }]) (C := fun c w' => ∃ f, c = [{ v := .iface 128 (.pointer (some ⟨f, 0, none⟩)), recovered := false }] /\ zen w' f /\ Dk w' (K + 1 + 1) b g base n (.slice none 0 0) m.tick.tick (zap bytes cache) [] /\ m.tick.bad = true /\ Only (dfp b g (.slice none 0 0)) w3 w') ?_ ?_
 . rintro c a w' ha h6 ⟨f, rfl, hf, hd, hb1, ho⟩
   exact H0.out.thrown hF hW HR.out hf hd (show K + 1 + 1 <= K + 0 + 3 by omega) hb1 (Later.refl m).tick (.inr ⟨by rw [List.append_nil], .inl rfl⟩) (HOW3.out.trans ho) HFP0.out ha h6
 refine wp_region_held_drew (S := fun w' => w'.cell? ⟨dk, 0, none⟩ = some (.iface 23 (.pointer (some ⟨b, 0, none⟩))) /\ w'.cell? ⟨H + 1 + 1, 0, none⟩ = some (.int .i64 sl) /\ w'.cell? ⟨H + 1 + 1, 1, none⟩ = some (.int .u32 gn) /\ w'.cell? ⟨H + 1 + 1, 2, none⟩ = some (.int .i64 rb) /\ w'.cell? ⟨H + 1 + 1, 3, none⟩ = some (.int .u32 rg)) (by kernel_rfl) S3.out ?_
 intro hS0
 refine zbm 0 (.pointer (some ⟨dk, 0, none⟩)) (some 122) rfl rfl (.inl ⟨rfl, fun w' hSw => by go_simp⟩) hS0 ?_
 simp only [Act.put, n1, n2, n3]
 refine zbm 1 (.pointer (some ⟨dk, 0, none⟩)) (some 123) rfl rfl (.inl ⟨rfl, fun w' hSw => by go_simp⟩) hS0 ?_
 simp only [Act.put, n1, n2, n3]
 refine zbm 2 (.pointer (some ⟨dk, 0, none⟩)) (some 124) rfl rfl (.inl ⟨rfl, fun w' hSw => by go_simp⟩) hS0 ?_
 simp only [Act.put, n1, n2, n3]
 refine zbm 3 (.agg #[.iface 23 (.pointer (some ⟨b, 0, none⟩))]) (some 125) rfl rfl (.inl ⟨rfl, fun w' hSw => by have s1 := hSw.1; clear hSw; go_simp⟩) hS0 ?_
 simp only [Act.put, n1, n2, n3]
 refine zbm 4 (.pointer (some ⟨H + 1 + 1, 0, none⟩)) (some 126) rfl rfl (.inl ⟨rfl, fun w' hSw => by go_simp⟩) hS0 ?_
 simp only [Act.put, n1, n2, n3]
 refine zbm 5 (.int .i64 sl) (some 127) rfl rfl (.inl ⟨rfl, fun w' hSw => by have s1 := hSw.2.1; clear hSw; go_simp⟩) hS0 ?_
 simp only [Act.put, n1, n2, n3]
 refine zbm 6 (.agg #[.int .i64 sl, .int .u32 gn, .int .i64 rb, .int .u32 rg]) (some 128) rfl rfl (.inl ⟨rfl, fun w' hSw => by obtain ⟨_, s1, s2, s3, s4⟩ := hSw; go_simp⟩) hS0 ?_
 simp only [Act.put, n1, n2, n3]
 refine zc9 (i := 7) (f := 95) (some 129) (by kernel_rfl) rfl rfl rfl (by first | (go_simp; done) | (go_simp; rfl)) (HBY.out _) ?_
 rintro e w4 ⟨g4, rfl, hb4, hz4, hbel4⟩
 have hk4 := HSS'.out w3 w4 (fun hy _ _ _ => Blk.below (show Blk w3.drew _ _ _ from hy) hbel4 hy.lt) K3.out K7.out
 have hs4 := HCC'.out w4 hk4.1 hk4.2
 have HK4 := zaa hk4
 have HB4 := zaa hb4
 have HBEL4 := zaa hbel4
 clear hk4 hb4 hbel4 hz4
 refine ⟨_, rfl, hs4, ?_⟩
 simp only [Act.put, n1, n2, n3]
 refine zke (i := 8) (f := 92) (some 130) (by kernel_rfl) rfl rfl rfl (by first | (go_simp; done) | (go_simp; rfl)) (zmh (K + 1) b g base n sl 32 32 (some ⟨g4, 0, none⟩) (.slice none 0 0) m.tick (zap bytes cache) (zam gn rb rg) [] w4 (HD3.out.drew.below HBEL4.out) (by have := HSZ.out; omega) (by have := HNUM.out; omega) (SlU.whole HB4.out rfl (by omega)) (by omega) (by simp)) rfl rfl ?_
 rintro e w5 (⟨cv5, rfl, hb1, hd5, ho5, hf5⟩ | ⟨hb1, f, rfl, hf, hd, ho⟩)
 rotate_left
 . exact .inr ⟨_, rfl, f, rfl, hf, hd, hb1, ((Only.refl (dfp b g (.slice none 0 0)) w3).drew.below HBEL4.out).trans (ho.mono fun x _ e => .inl e)⟩
 have hk5 := HSS'.out w4 w5 (fun hy a1 a2 a3 => Blk.only hy ho5 ((HD3.out.drew.below HBEL4.out).ne hy a1 a2 a3)) HK4.out.1 HK4.out.2
 have hs5 := HCC'.out w5 hk5.1 hk5.2
 refine .inl ⟨_, rfl, hs5, ?_⟩
 simp only [Act.put, n1, n2, n3]
 refine wpAnyH_done (by kernel_rfl) ?_ _
 refine PanicAt.normal ?_
 go_wp2_with fail
 have hbl4 := HBEL4.out
 have hO35 : Only (dfp b g (.slice none 0 0)) w3 w5 := Only.trans' ((Only.refl (dfp b g (.slice none 0 0)) w3).drew.below hbl4) ho5 (fun x _ hx => hx)
 have hd5' : Dk w5 (K + 2) b g base n cv5 m.tick.wrote (zap bytes cache) ([] ++ [(sl, pad 128 (zam gn rb rg))]) := hd5
 have FL5 := zaa (zmi (K + 2) b g base n cv5 m.tick.wrote (zap bytes cache) ([] ++ [(sl, pad 128 (zam gn rb rg))]) w5 hd5' (by have := HNUM.out; omega))
 have c5 : w5.cell? ⟨dk, 0, none⟩ = some (.iface 23 (.pointer (some ⟨b, 0, none⟩))) := hs5.1
 have HK5 := zaa hk5
 have HD5 := zaa hd5'
 have HO35 := zaa hO35
 have HO5 := zaa ho5
 clear hk5 hd5 hd5' hO35 ho5 hf5 hbl4 hs5 hs4 FL
 go_wp2_with fail
 refine FL5.out.mono ?_
 unfold thrown
 rintro e w6 (⟨rfl, hb5, hd6, ho6⟩ | ⟨hb5, f, rfl, hf6, hd6, ho6⟩)
 rotate_left
 . exact H0.out.thrown hF hW HR.out hf6 hd6 (show K + 2 + 1 <= K + 0 + 3 by omega) hb5 (Later.refl m).tick.wrote (.inr ⟨by rw [List.append_nil], .inr rfl⟩) ((HOW3.out.trans HO35.out).trans (ho6.mono fun x _ e => .inl e)) HFP0.out rfl rfl
 have hfp6 : ∀ {y T cs}, Blk w5 y T cs -> T ≠ 103 -> T ≠ 111 -> T ≠ 113 -> Blk w6 y T cs := fun hy a1 a2 a3 => hy.only ho6 fun e => HD5.out.ne hy a1 a2 a3 (e.imp id .inl)
 have hfp5 : ∀ {y T cs}, Blk w3 y T cs -> T ≠ 103 -> T ≠ 111 -> T ≠ 113 -> Blk w5 y T cs := fun hy a1 a2 a3 => hy.only HO35.out (HD3.out.ne hy a1 a2 a3)
 have hall : ∀ {y T cs}, Blk W y T cs -> T ≠ 103 -> T ≠ 111 -> T ≠ 113 -> Blk w6 y T cs := fun hy a1 a2 a3 => hfp6 (hfp5 (HFP3.out _ _ _ hy a1 a2 a3) a1 a2 a3) a1 a2 a3
 have k6 := hall H0.out.dkb (by decide) (by decide) (by decide)
 have k7 := hall H7.out (by decide) (by decide) (by decide)
 have k8 := hall H0.out.e6 (by decide) (by decide) (by decide)
 have x0 : w6.cell? ⟨H + 1 + 1, 0, none⟩ = some (.int .i64 sl) := zab k7 0 rfl
 have x1 : w6.cell? ⟨H + 1 + 1, 1, none⟩ = some (.int .u32 gn) := zab k7 1 rfl
 have x2 : w6.cell? ⟨H + 1 + 1, 2, none⟩ = some (.int .i64 rb) := zab k7 2 rfl
 have x3 : w6.cell? ⟨H + 1 + 1, 3, none⟩ = some (.int .u32 rg) := zab k7 3 rfl
 have y1 : w6.cell? ⟨dk, 1, none⟩ = some (.int .i64 hd.slot) := zab k6 1 rfl
 have y2 : w6.cell? ⟨dk, 2, none⟩ = some (.int .u32 hd.gen) := zab k6 2 rfl
 have y3 : w6.cell? ⟨dk, 3, none⟩ = some (.int .i64 hd.blk) := zab k6 3 rfl
 have y4 : w6.cell? ⟨dk, 4, none⟩ = some (.int .u32 hd.rgen) := zab k6 4 rfl
 have z1 : w6.frozen? ⟨dk, 1, none⟩ = false := k6.frozen 1
 have z2 : w6.frozen? ⟨dk, 2, none⟩ = false := k6.frozen 2
 have z3 : w6.frozen? ⟨dk, 3, none⟩ = false := k6.frozen 3
 have z4 : w6.frozen? ⟨dk, 4, none⟩ = false := k6.frozen 4
 have e0 : w6.cell? ⟨H + 1, 0, none⟩ = some .nilIface := zab k8 0 rfl
 have z0 : w6.frozen? ⟨H + 1, 0, none⟩ = false := k8.frozen 0
 have HALL := zaa (show ∀ y T cs, Blk W y T cs -> T ≠ 103 -> T ≠ 111 -> T ≠ 113 -> Blk w6 y T cs from fun _ _ _ a b c d => hall a b c d)
 have K6 := zaa k6
 have K8 := zaa k8
 have HD6 := zaa hd6
 have HO6 := zaa ho6
 have n1 : ¬ dk = H + 1 := by have := H0.out.dkl; omega
 have n2 : ¬ H + 1 = dk := by have := H0.out.dkl; omega
 clear k6 k7 k8 hd6 ho6 hall hfp5 hfp6 c5
 go_wp2
 obtain ⟨W7, hW7⟩ : ∃ W7, W7 = ((((w6.setCell ⟨dk, 1, none⟩ (.int .i64 sl)).setCell ⟨dk, 2, none⟩ (.int .u32 gn)).setCell ⟨dk, 3, none⟩ (.int .i64 rb)).setCell ⟨dk, 4, none⟩ (.int .u32 rg)).setCell ⟨H + 1, 0, none⟩ .nilIface := ⟨_, rfl⟩
 rw [<- hW7]
 have hO7 : Only (fun y => y = dk \/ y = H + 1) w6 W7 := by
  rw [hW7]
  exact (((((Only.set1 w6 dk 1 _).set2 2 _).set2 3 _).set2 4 _).mono fun _ _ h => Or.inl h).trans ((Only.set1 _ (H + 1) 0 _).mono fun _ _ h => Or.inr h)
 have hdk7 : Blk W7 dk 151 (#[dev b] ++ zay sl gn rb rg) := by
  rw [hW7]
  exact ((((K6.out.set_ 1 (.int .i64 sl)).set_ 2 (.int .u32 gn)).set_ 3 (.int .i64 rb)).set_ 4 (.int .u32 rg)).far (p := ⟨H + 1, 0, none⟩) n1 _
 have he7 : Blk W7 (H + 1) 31 #[.nilIface] := by
  rw [hW7]
  exact ((((K8.out.far (p := ⟨dk, 1, none⟩) n2 _).far (p := ⟨dk, 2, none⟩) n2 _).far (p := ⟨dk, 3, none⟩) n2 _).far (p := ⟨dk, 4, none⟩) n2 _).set_ 0 _
 obtain ⟨v, hv, hown⟩ := H0.out.dirt
 have hnot7 : ∀ {y T cs}, Blk W y T cs -> T ≠ 151 -> T ≠ 31 -> ¬ (y = dk \/ y = H + 1) := fun hy a1 a2 e => e.elim (fun e => Blk.ne_ hy H0.out.dkb a1 e) (fun e => Blk.ne_ hy H0.out.e6 a2 e)
 have hv7 : Blk W7 (H + 1 + 1 + 1 + 1 + 1) 156 #[v] := (HALL.out _ _ _ hv (by decide) (by decide) (by decide)).only hO7 (hnot7 hv (by decide) (by decide))
 have hOall : Only (fun y => dfp b g cv y \/ y = b \/ y = g) W w6 := by
  have h1 : Only (fun y => dfp b g cv y \/ y = b \/ y = g) W w3 := HO3.out.mono fun x _ h => .inr h
  have h2 : Only (fun y => dfp b g cv y \/ y = b \/ y = g) W w5 := h1.trans (HO35.out.mono fun x _ h => by
   rcases h with h | h | h
   . exact .inr (.inl h)
   . exact .inr (.inr h)
   . simp [Value.ownBlock] at h)
  exact h2.trans (HO6.out.mono fun x _ h => .inr h)
 have hne6 : ∀ {y T cs}, Blk W y T cs -> T ≠ 103 -> T ≠ 111 -> T ≠ 113 -> ¬ (dfp b g cv y \/ y = b \/ y = g) := fun hy a1 a2 a3 e => H0.out.disk.ne hy a1 a2 a3 (e.elim id fun e => e.elim .inl fun e => .inr (.inl e))
 have hown7 : W7.ownsRow H 86 1 v ds.length (ds.map P) := by
  have h6 : w6.ownsRow H 86 1 v ds.length (ds.map P) := za0 hown hOall fun x cs hx => hne6 hx (by decide) (by decide) (by decide)
  refine ⟨h6.1, ?_⟩
  rcases h6.2 with h0 | ⟨g', cap, cur, e1, e2, e3, e4⟩
  . exact .inl h0
  . exact .inr ⟨g', cap, cur, e1, e2, Blk.only (t := 86) e3 hO7 (fun e => e.elim (fun e => Blk.ne_ (show Blk w6 g' 86 cur from e3) K6.out (by decide) e) (fun e => Blk.ne_ (show Blk w6 g' 86 cur from e3) K8.out (by decide) e)), e4⟩
 have hnod7 : ∀ j (hj : j < ds.length), zb3 W7 ds[j] (s j) := fun j hj => Blk.only (HALL.out _ _ _ (H0.out.nodes j hj) (by decide) (by decide) (by decide)) hO7 (hnot7 (H0.out.nodes j hj) (by decide) (by decide))
 have hlow := H0.out.low
 refine leaves_cons (f := 90) (args := #[.pointer (some ⟨H + 1, 0, none⟩), .pointer (some ⟨H + 1 + 1 + 1 + 1 + 1, 0, none⟩)]) (by simp) (by simp [go_sem]) ?_
 refine (zzo H (H + 1) (H + 1 + 1 + 1 + 1 + 1) v ds s W7 he7 hv7 hown7 H0.out.nd H0.out.few hnod7 hlow ⟨by omega, by omega⟩).mono ?_
 rintro e u' w8 ⟨rfl, rfl, hn8, ho8⟩
 have hin : ∀ y, y ∈ ds -> y < H := hlow
 have he8 : Blk w8 (H + 1) 31 #[.nilIface] := he7.only ho8 (fun e => by have := hin _ e; omega)
 have m8 := zab he8 0 rfl
 refine ⟨.nilIface, by simp [results, Tryz.results60, go_sem, m8], HR.out _ _ (.inl ⟨rfl, ?_, ?_, hn8, ?_⟩)⟩
 . rw [List.append_nil]
   have h7 : Dk W7 (K + 3) b g base n (.slice none 0 0) m.tick.wrote.tick (zcp (zap bytes cache) (sl, pad 128 (zam gn rb rg))) [] := HD6.out.only hO7 (fun x hx e => by
    rcases e with e | e
    . subst e; exact HD6.out.ne K6.out (by decide) (by decide) (by decide) hx
    . subst e; exact HD6.out.ne K8.out (by decide) (by decide) (by decide) hx)
   refine h7.only ho8 (fun x hx e => ?_)
   obtain ⟨j, hj, rfl⟩ := List.getElem_of_mem e
   exact h7.ne (hnod7 j hj) (by decide) (by decide) (by decide) hx
 . refine hdk7.only ho8 (fun e => ?_)
   obtain ⟨j, hj, e⟩ := List.getElem_of_mem e
   exact Blk.ne_ hdk7 (hnod7 j hj) (by decide) e.symm
 . refine hW.trans <| ((hOall.mono fun x _ h => ?_).trans (hO7.mono fun x _ h => ?_)).trans (ho8.mono fun x _ h => .inr (.inr (.inl h)))
   . have : dfp b g cv x := by
       rcases h with h | h | h
       . exact h
       . exact .inl h
       . exact .inr (.inl h)
     exact (hF x this).elim .inl fun h => .inr (.inr (.inr h))
   . rcases h with h | h
     . exact .inr (.inl h)
     . exact .inr (.inr (.inr (by omega)))
theorem ComMid.only {W W' : World} {H K b g base n : Nat} {cv : Value} {m : Nums} {bytes : List UInt8} {cache : List (Nat × List UInt8)} {dk : Nat} {hd : Hd} {ds : List Nat} {s : Nat -> NdS} (h : ComMid W H K b g base n cv m bytes cache dk hd ds s) {x : Nat} {cs : Array Value} (h1 : 0 < x) (hx : Blk W x 149 cs) (ho : Only (· = x) W W') : ComMid W' H K b g base n cv m bytes cache dk hd ds s := by
 have hne : ∀ {y T cs}, Blk W y T cs -> T ≠ 149 -> ¬ y = x := fun hy hT e => Blk.ne_ hy hx hT e
 obtain ⟨v, hv, hown⟩ := h.dirt
 exact ⟨h.disk.only ho (fun y hy e => by subst e; exact h.disk.ne hx (by decide) (by decide) (by decide) hy), h.glob.imp id fun ⟨hg, h0⟩ => ⟨hg.only ho (fun e => by omega), h0⟩, h.dkb.only ho (hne h.dkb (by decide)), h.e6.only ho (hne h.e6 (by decide)), ⟨v, hv.only ho (hne hv (by decide)), za0 hown ho fun y cs hy => hne hy (by decide)⟩,
  fun j hj => Blk.only (h.nodes j hj) ho (hne (h.nodes j hj) (by decide)), h.nd, h.low, h.dkl, h.few, h.size, h.num, Nat.lt_of_lt_of_le h.H_ ho.size⟩
set_option maxHeartbeats 6400000 in
theorem zxv (R : Ending -> World -> Prop) (F : Nat -> Prop) (H K b g base n : Nat) (cv : Value) (m : Nums) (bytes : List UInt8) (cache : List (Nat × List UInt8)) (dk : Nat) (hd : Hd) (ds : List Nat) (s : Nat -> NdS) (sl gn rb rg : Nat) (q0 : Option Addr) (keys : Int) (W₀ W : World) (hF : ∀ x, dfp b g cv x -> F x \/ H <= x) (hW : Only (fun y => F y \/ y = dk \/ y ∈ ds \/ H <= y) W₀ W) (h : ComMid W H K b g base n cv m bytes cache dk hd ds s)
   (h4 : Blk W H 88 #[.pointer q0, .int .i64 keys]) (h7 : Blk W (H + 1 + 1) 149 (zay sl gn 0 0)) (hroot : (q0 = none /\ rb = 0 /\ rg = 0) \/ ∃ b0 dd pv kv, q0 = some ⟨b0, 0, none⟩ /\ NodeAt W b0 rb rg dd pv kv) (hsl : sl < 2) (hgn : gn < 4294967296) (hrb : rb < 4294967296) (hrg : rg < 4294967296) (hR : ∀ e w', ComEnd F H K 0 b g base n m bytes cache [] dk hd ds s sl gn rb rg W₀ e w' -> R e w')
   (u1 u2 u3 u5 u10 u11 u12 u13 u14 u15 u16 u17 u18 u19 u20 u21 u22 u23 u24 u25 u26 u27 u28 u29 u30 u31 u32 u33 u34 u35 u36 u37 u38 u39 u40 u41 u42 u43 u44 u45 u46 u47 u48 u49 u50 u51 u52 u53 u54 u55 u56 u57 u58 u59 u60 u61 u62 u63 u64 u65 u66 u67 u68 u69 u70 u71 u72 u73 u74 u75 u76 u77 u78 u79 u80 u81 u82 u83 u84 u85 u86 u87 u88 u89 u90 u91 u92 u93 u94 u95 u96 u97 u98 u99 u100 u101 u102 u103 u104 u105 u106 u107 u108 u109 u110 u111 u112 u113 u114 u115 u116 u117 u118 u119 u120 u121 u122 u123 u124 u125 u126 u127 u128 u129 u130 u131 u132 u133 u134 u135 u136 u137 u138 u139 : Value) :
   Code.wp Tryz.prog (zld 10) (bodyPostD Tryz.prog Tryz.f60 R) ⟨#[.pointer (some ⟨dk, 0, none⟩), u1, u2, u3, .pointer (some ⟨H, 0, none⟩), u5, .pointer (some ⟨H + 1, 0, none⟩), .pointer (some ⟨H + 1 + 1, 0, none⟩), .pointer (some ⟨H + 1 + 1 + 1 + 1, 0, none⟩), .pointer (some ⟨H + 1 + 1 + 1 + 1 + 1, 0, none⟩), u10, u11, u12, u13, u14, u15, u16, u17, u18, u19, u20, u21, u22, u23, u24, u25, u26, u27, u28, u29, u30, u31, u32, u33, u34, u35, u36, u37, u38, u39, u40, u41, u42, u43, u44, u45, u46, u47, u48, u49, u50, u51, u52, u53, u54, u55, u56, u57, u58, u59, u60, u61, u62, u63, u64, u65, u66, u67, u68, u69, u70, u71, u72, u73, u74, u75, u76, u77, u78, u79, u80, u81, u82, u83, u84, u85, u86, u87, u88, u89, u90, u91, u92, u93, u94, u95, u96, u97, u98, u99, u100, u101, u102, u103, u104, u105, u106, u107, u108, u109, u110, u111, u112, u113, u114, u115, u116, u117, u118, u119, u120, u121, u122, u123, u124, u125, u126, u127, u128, u129, u130, u131, u132, u133, u134, u135, u136, u137, u138, u139], [{ target := .fn (.func 90) #[.pointer (some ⟨H + 1, 0, none⟩), .pointer (some ⟨H + 1 + 1 + 1 + 1 + 1, 0, none⟩)], args := #[] }]⟩ W := by
 have x0 : W.cell? ⟨H, 0, none⟩ = some (.pointer q0) := zab h4 0 rfl
 have x00 : W.cell? ⟨H + 1 + 1, 2, none⟩ = some (.int .i64 0) := zab h7 2 rfl
 have H0 := zaa h
 have H7 := zaa h7
 have HW := zaa hW
 have HR := zaa hroot
 clear h h7 hW h4 hroot
 conv => arg 2; whnf
 go_upto_if 110 with fail
 go_cut [] from 111 to 116 (fun wx => Blk wx (H + 1 + 1) 149 (zay sl gn rb rg) /\ Only (· = H + 1 + 1) W wx)
 case first =>
  rcases HR.out with ⟨rfl, rfl, rfl⟩ | ⟨b0, dd, pv, kv, rfl, hn⟩
  . go_wp2
    go_meet
    exact ⟨H7.out, Only.refl _ _⟩
  . have y0 : W.cell? ⟨b0, 0, none⟩ = some (.int .i64 rb) := zab hn 0 rfl
    have y1 : W.cell? ⟨b0, 1, none⟩ = some (.int .u32 rg) := zab hn 1 rfl
    have z3 : W.cell? ⟨H + 1 + 1, 3, none⟩ = some (.int .u32 0) := zab H7.out 3 rfl
    have f2 : W.frozen? ⟨H + 1 + 1, 2, none⟩ = false := H7.out.frozen 2
    have f3 : W.frozen? ⟨H + 1 + 1, 3, none⟩ = false := H7.out.frozen 3
    clear hn
    go_wp2
    go_meet
    exact ⟨(H7.out.set_ 2 (.int .i64 rb)).set_ 3 (.int .u32 rg), (Only.set1 _ _ _ _).set2 _ _⟩
 case rest =>
  obtain ⟨k7, ho⟩ := hcut
  rename_i hK
  exact hK _ _ (zxu R F H K b g base n cv m bytes cache dk hd ds s sl gn rb rg W₀ wc hF (HW.out.trans (ho.mono fun x _ e => .inr (.inr (.inr (by omega))))) (H0.out.only (by omega) H7.out ho) k7 hsl hgn hrb hrg hR _ _ _ _ _ _ _ _ _ _ _ _ _ _ _ _ _ _ _ _ _ _ _ _ _ _ _ _ _ _ _ _ _ _ _ _ _ _ _ _ _ _ _ _ _ _ _ _ _ _ _ _ _ _ _ _ _ _ _ _ _ _ _ _ _ _ _ _ _ _ _ _ _ _ _ _ _ _ _ _ _ _ _ _ _ _ _ _ _ _ _ _ _ _ _ _ _ _ _ _ _ _ _ _ _ _ _ _ _ _ _ _ _ _ _ _ _ _ _ _ _ _ _ _ _ _ _ _ _ _ _ _ _ _)
theorem zwb (h : Nat) (n : Tr h) : (zt3 h n).length = 12 + Tr.size h n := by
 cases h with
 | zero => show (nhd _ _ _ _ ++ _).length = _; rw [List.length_append, zfm, zgx]; rfl
 | succ h => show (nhd _ _ _ _ ++ _).length = _; rw [List.length_append, zfm, zkz (Tr.blk h) (Tr.gen h)]; rfl
theorem zm8 {h : Nat} {n : Tr h} (hs : Tr.size h n <= 116) : (nby h n).length = 128 := by
 unfold nby sealN
 have := zb5 128 (zt3 h n) (by rw [zwb]; omega)
 simp only [List.length_append, List.length_drop, this, zd7]
theorem zxw {l : List UInt8} (h : l.length = 128) : pad 128 l = l := by unfold pad; rw [h]; simp
def zao (t : Tree) : List (Nat × List UInt8) := t.dlist.map fun x => (Tr.blk x.1 x.2, nby x.1 x.2)
theorem zkf {m : Nums} (h : m.calm) : ∀ k, (zde m k).calm
 | 0 => h
 | k + 1 => (zkf h k).wrote
def Tree.rblk (t : Tree) : Nat := match t.root with | none => 0 | some r => Tr.blk r.1 r.2
def Tree.rgen (t : Tree) : Nat := match t.root with | none => 0 | some r => Tr.gen r.1 r.2
def zxx (n : Nat) (x : (h : Nat) × Tr h) : Prop := Tr.size x.1 x.2 <= 116 /\ (x.1 = 0 \/ 1 <= Tr.len x.1 x.2) /\ NS zc4 x.1 x.2 /\ Tr.blk x.1 x.2 < n
structure z1i (W : World) (H K b g base n : Nat) (cv : Value) (m : Nums) (bytes : List UInt8) (cache : List (Nat × List UInt8)) (dk : Nat) (hd : Hd) (ds : List Nat) (s : Nat -> NdS) (T1 : Tree) (q0 : Option Addr) : Prop where
 mid : ComMid W H K b g base n cv m bytes cache dk hd ds s
 tree : TreeV (fun z => z < H) W T1 (.pointer q0) ds
 out : ∀ x ∈ T1.dlist, zxx n x
 num : K + ds.length + 5 < zbf
 room : cache.length + ds.length < 90000
theorem zzs {α β : Type} (f : α -> β) {l : List α} {k : Nat} (h : k < l.length) : (l.map f).take (k + 1) = (l.map f).take k ++ [f l[k]] := by
 rw [List.take_add_one, List.getElem?_map, List.getElem?_eq_getElem h]; rfl
def z2k (W : World) (K b g base n : Nat) (cv : Value) (m : Nums) (bytes : List UInt8) (cache WL : List (Nat × List UInt8)) (N : Nat) (s : Value) (wr : World) : Prop :=
 ∃ (k : Nat) (cv' : Value), k <= N /\ s = .int .i64 k /\ Dk wr (K + k) b g base n cv' (zde m k) bytes (cache ++ WL.take k) /\ Only (dfp b g cv) W wr /\ ∀ x, dfp b g cv' x -> dfp b g cv x \/ W.heap.size <= x
theorem ComMid.dfp {W wr : World} {H K b g base n : Nat} {cv : Value} {m : Nums} {bytes : List UInt8} {cache : List (Nat × List UInt8)} {dk : Nat} {hd : Hd} {ds : List Nat} {s : Nat -> NdS} (h : ComMid W H K b g base n cv m bytes cache dk hd ds s) (ho : Only (Proofs.YtemondlgcmpbbaaGreatDoor.dfp b g cv) W wr)
   {K' : Nat} {cv' : Value} {m' : Nums} {cache' : List (Nat × List UInt8)} (hd' : Dk wr K' b g base n cv' m' bytes cache') (hl : Later m m') (hcv : ∀ x, Proofs.YtemondlgcmpbbaaGreatDoor.dfp b g cv' x -> Proofs.YtemondlgcmpbbaaGreatDoor.dfp b g cv x \/ W.heap.size <= x) (hn : K' + 5 < zbf) : ComMid wr H K' b g base n cv' m' bytes cache' dk hd ds s := by
 have hk : ∀ {y T cs}, Blk W y T cs -> T ≠ 103 -> T ≠ 111 -> T ≠ 113 -> Blk wr y T cs := fun hy a1 a2 a3 => hy.only ho (h.disk.ne hy a1 a2 a3)
 obtain ⟨v, hv, hown⟩ := h.dirt
 exact ⟨hd', h.glob.imp hl.calm fun ⟨hg, h0⟩ => ⟨hg.only ho h0, fun e => (hcv 0 e).elim h0 fun e => by have := hg.pos; omega⟩, hk h.dkb (by decide) (by decide) (by decide), hk h.e6 (by decide) (by decide) (by decide), ⟨v, hk hv (by decide) (by decide) (by decide), za0 hown ho fun y cs hy => h.disk.ne hy (by decide) (by decide) (by decide)⟩,
  fun j hj => hk (h.nodes j hj) (by decide) (by decide) (by decide), h.nd, h.low, h.dkl, h.few, h.size, hn, Nat.lt_of_lt_of_le h.H_ ho.size⟩
set_option maxHeartbeats 6400000 in
theorem zzt (F : Nat -> Prop) (H K b g base n : Nat) (cv : Value) (m : Nums) (bytes : List UInt8) (cache : List (Nat × List UInt8)) (dk : Nat) (hd : Hd) (ds : List Nat) (s : Nat -> NdS) (T1 : Tree) (sl gn : Nat) (q0 : Option Addr) (keys : Int) (W₀ W : World) (hF : ∀ x, dfp b g cv x -> F x \/ H <= x) (hW : Only (fun y => F y \/ y = dk \/ y ∈ ds \/ H <= y) W₀ W) (h : z1i W H K b g base n cv m bytes cache dk hd ds s T1 q0)
   (h4 : Blk W H 88 #[.pointer q0, .int .i64 keys]) (h7 : Blk W (H + 1 + 1) 149 (zay sl gn 0 0)) (hsl : sl < 2) (hgn : gn < 4294967296) (hrb : T1.rblk < 4294967296) (hrg : T1.rgen < 4294967296)
   (u1 u2 u3 u5 u10 u11 u12 u13 u14 u15 u16 u17 u18 u19 u20 u21 u22 u23 u24 u25 u26 u27 u28 u29 u30 u31 u32 u33 u34 u35 u36 u37 u38 u39 u40 u41 u42 u43 u44 u45 u46 u47 u48 u49 u50 u51 u52 u53 u54 u55 u56 u57 u58 u59 u60 u61 u62 u63 u64 u65 u66 u67 u68 u69 u70 u71 u72 u73 u74 u75 u76 u77 u78 u79 u80 u81 u82 u83 u84 u85 u86 u87 u88 u89 u90 u91 u92 u93 u94 u95 u96 u97 u98 u99 u100 u101 u102 u103 u104 u105 u106 u107 u108 u109 u110 u111 u112 u113 u114 u115 u116 u117 u118 u119 u120 u121 u122 u123 u124 u125 u126 u127 u128 u129 u130 u131 u132 u133 u134 u135 u136 u137 u138 u139 : Value) :
   Code.wp Tryz.prog (zld 9) (bodyPostD Tryz.prog Tryz.f60 (ComEnd F H K ds.length b g base n m bytes cache (zao T1) dk hd ds s sl gn T1.rblk T1.rgen W₀)) ⟨#[.pointer (some ⟨dk, 0, none⟩), u1, u2, u3, .pointer (some ⟨H, 0, none⟩), u5, .pointer (some ⟨H + 1, 0, none⟩), .pointer (some ⟨H + 1 + 1, 0, none⟩), .pointer (some ⟨H + 1 + 1 + 1 + 1, 0, none⟩), .pointer (some ⟨H + 1 + 1 + 1 + 1 + 1, 0, none⟩), u10, u11, u12, u13, u14, u15, u16, u17, u18, u19, u20, u21, u22, u23, u24, u25, u26, u27, u28, u29, u30, u31, u32, u33, u34, u35, u36, u37, u38, u39, u40, u41, u42, u43, u44, u45, u46, u47, u48, u49, u50, u51, u52, u53, u54, u55, u56, u57, u58, u59, u60, u61, u62, u63, u64, u65, u66, u67, u68, u69, u70, u71, u72, u73, u74, u75, u76, u77, u78, u79, u80, u81, u82, u83, u84, u85, u86, u87, u88, u89, u90, u91, u92, u93, u94, u95, u96, u97, u98, u99, u100, u101, u102, u103, u104, u105, u106, u107, u108, u109, u110, u111, u112, u113, u114, u115, u116, u117, u118, u119, u120, u121, u122, u123, u124, u125, u126, u127, u128, u129, u130, u131, u132, u133, u134, u135, u136, u137, u138, u139], [{ target := .fn (.func 90) #[.pointer (some ⟨H + 1, 0, none⟩), .pointer (some ⟨H + 1 + 1 + 1 + 1 + 1, 0, none⟩)], args := #[] }]⟩ W := by
 obtain ⟨v, hv, hown⟩ := h.mid.dirt
 obtain ⟨A, c, rfl, hform⟩ := zan hown
 have x9 : W.cell? ⟨H + 1 + 1 + 1 + 1 + 1, 0, none⟩ = some (.slice A ds.length c) := zab hv 0 rfl
 have hc : ds.length <= c /\ c <= maxLen := ⟨hform.1, hform.2.1⟩
 obtain ⟨hc1, hc2⟩ := hc
 unfold maxLen at hc2
 have hrow : ∀ wr, Only (dfp b g cv) W wr -> ∀ k (hk : k < ds.length), ∃ g', A = some ⟨g', 0, none⟩ /\ wr.cell? ⟨g', k, none⟩ = some (.pointer (some ⟨ds[k], 0, none⟩)) := by
  intro wr hr k hk
  cases hA : A with
  | none =>
    have := (hform.2.2.2 (by rw [hA]; rfl)).1
    omega
  | some a =>
    obtain ⟨e1, e2, e3, cur, e4, e5, e6⟩ := hform.2.2.1 a.block (by rw [hA]; rfl)
    rw [hA] at e3
    refine ⟨a.block, e3, ?_⟩
    rw [(hr.cell (p := ⟨a.block, k, none⟩) e2 (h.mid.disk.ne e4 (by decide) (by decide) (by decide))), e4.cell]
    have := congrArg (fun l => l[k]?) e6
    simp only [Nat.mul_one, List.getElem?_take, if_pos hk, List.getElem?_map, List.getElem?_eq_getElem hk, Option.map_some] at this
    rw [<- Array.getElem?_toList]
    exact this
 have hlen : ds.length = T1.dlist.length := h.tree.dl.len
 have hwl : (zao T1).length = ds.length := by unfold zao; rw [List.length_map, hlen]
 have hds1 : ds.length <= 1000 := h.mid.few
 have HROW := zaa hrow
 have H0 := zaa h
 have H7 := zaa h7
 have H4 := zaa h4
 have HW := zaa hW
 have HLEN := zaa hlen
 have HWL := zaa hwl
 clear h h7 hW h4 hv hown hform hrow hlen hwl
 conv => arg 2; whnf
 go_upto_block 6 with fail
 go_cut [16] from 91 to 107 (fun s16 wx => ∃ cv', Dk wx (K + ds.length) b g base n cv' (zde m ds.length) bytes (cache ++ zao T1) /\ Only (dfp b g cv) W wx /\ ∀ x, dfp b g cv' x -> dfp b g cv x \/ W.heap.size <= x)
 case first =>
  go_wp2_with fail
  go_loopw [91] (fun s wr => z2k W K b g base n cv m bytes cache (zao T1) ds.length s wr) (fun s _ => ds.length - (intOf s).toNat)
  case atStart => exact ⟨0, cv, Nat.zero_le _, rfl, (by rw [List.take_zero, List.append_nil]; exact H0.out.mid.disk), Only.refl _ _, fun x hx => .inl hx⟩
  case round =>
   obtain ⟨k, cvk, hk, rfl, hdk, hon, hcv⟩ := hrel
   by_cases hlt : k < ds.length
   . obtain ⟨g', rfl, hcell⟩ := HROW.out wr hon k hlt
     have hltd : k < T1.dlist.length := by rw [<- HLEN.out]; exact hlt
     have hout := H0.out.out _ (List.getElem_mem hltd)
     obtain ⟨ds', hfr⟩ := H0.out.tree.dl.at_ k hlt hltd
     have hndk := H0.out.mid.nodes k hlt
     obtain ⟨x, hx⟩ : ∃ x, x = T1.dlist[k] := ⟨_, rfl⟩
     obtain ⟨y, hy⟩ : ∃ y, y = ds[k] := ⟨_, rfl⟩
     rw [<- hx] at hout hfr
     rw [<- hy] at hfr hcell hndk
     obtain ⟨px, kx, hnx⟩ := hfr.nodeAt
     have hfrr : FRep (fun z => z < H) wr x.1 x.2 y ds' := hfr.only hon fun z T cs _ hz hT => H0.out.mid.disk.ne hz (fun e => zbl (X := 103) (by decide) (by decide) (by decide) (e ▸ hT)) (fun e => zbl (X := 111) (by decide) (by decide) (by decide) (e ▸ hT)) (fun e => zbl (X := 113) (by decide) (by decide) (by decide) (e ▸ hT))
     obtain ⟨py, ky, hny⟩ := hfrr.nodeAt
     have e1 : wr.cell? ⟨y, 0, none⟩ = some (.int .i64 (Tr.blk x.1 x.2)) := zab hny 0 rfl
     have hdkw : Blk wr dk 151 (#[dev b] ++ hd.cells) := H0.out.mid.dkb.only hon (H0.out.mid.disk.ne H0.out.mid.dkb (by decide) (by decide) (by decide))
     have e2 : wr.cell? ⟨dk, 0, none⟩ = some (.iface 23 (.pointer (some ⟨b, 0, none⟩))) := zab hdkw 0 rfl
     have hst : (cache ++ (zao T1).take k) ++ [(Tr.blk x.1 x.2, nby x.1 x.2)] = cache ++ (zao T1).take (k + 1) := by
      unfold zao
      rw [zzs _ hltd, <- hx, List.append_assoc]
     have BY := zaa (zv6 x.1 x.2 y ds' wr.drew (hfrr.below (Below.refl _ _).drew (fun _ h => h)) hout.1 hout.2.1 hout.2.2.1)
     obtain ⟨bk, hbk⟩ : ∃ bk, bk = Tr.blk x.1 x.2 := ⟨_, rfl⟩
     rw [<- hbk] at e1
     have hbn : bk < n := by rw [hbk]; exact hout.2.2.2
     have hcl : (cache ++ (zao T1).take k).length < 90000 := by
      have h1 := H0.out.room
      have h2 := List.length_take_le k (zao T1)
      rw [List.length_append]; omega
     have S1 := zaa (show wr.drew.cell? ⟨dk, 0, none⟩ = some (.iface 23 (.pointer (some ⟨b, 0, none⟩))) /\ wr.drew.cell? ⟨y, 0, none⟩ = some (.int .i64 bk) from ⟨e2, e1⟩)
     have hnl : (nby x.1 x.2).length = 128 := zm8 hout.1
     have k0 : (0 : Int) <= (k : Int) := by omega
     have k1 : (k : Int) < (ds.length : Int) := by omega
     have HNL := zaa hnl
     have HDK := zaa hdk
     have HON := zaa hon
     have HCV := zaa hcv
     have HST := zaa hst
     have HBK := zaa hbk
     have HDKW := zaa hdkw
     have HNY := zaa hny
     have HKB := zaa (show K + k < zbf by have := H0.out.num; omega)
     clear hx hy hfr hndk hnx hfrr hst hbk hdk hon hcv hout hnl hdkw hny e1 e2
     go_upto_region 25 with fail
     refine zga (v6 := .pointer (some ⟨H + 1, 0, none⟩)) (D := [{ target := .fn (.func 90) #[.pointer (some ⟨H + 1, 0, none⟩), .pointer (some ⟨H + 1 + 1 + 1 + 1 + 1, 0, none⟩)], args := #[] }]) (C := fun c w' => ∃ f, c = [{ v := .iface 128 (.pointer (some ⟨f, 0, none⟩)), recovered := false }] /\ zen w' f /\ Dk w' (K + k + 1) b g base n cvk (zde m k).tick bytes (cache ++ (zao T1).take k) /\ (zde m k).bad = true /\ Only (dfp b g cv) W w') ?_ ?_
     . rintro c a w' ha h6 ⟨f, rfl, hf, hd, hb1, ho⟩
       exact H0.out.mid.thrown hF HW.out (fun _ _ h => h) hf hd (by omega) hb1 (zd6 m k) (.inl ⟨k, by omega, rfl, rfl⟩) ho (fun _ _ e => e) ha h6
     refine wp_region_held_drew (S := fun w' => w'.cell? ⟨dk, 0, none⟩ = some (.iface 23 (.pointer (some ⟨b, 0, none⟩))) /\ w'.cell? ⟨y, 0, none⟩ = some (.int .i64 bk)) (by kernel_rfl) S1.out ?_
     intro hS0
     refine zbm 0 (.pointer (some ⟨dk, 0, none⟩)) (some 95) rfl rfl (.inl ⟨rfl, fun w' hSw => by go_simp⟩) hS0 ?_
     simp only [Act.put, n1, n2, n3]
     refine zbm 1 (.pointer (some ⟨dk, 0, none⟩)) (some 96) rfl rfl (.inl ⟨rfl, fun w' hSw => by go_simp⟩) hS0 ?_
     simp only [Act.put, n1, n2, n3]
     refine zbm 2 (.pointer (some ⟨dk, 0, none⟩)) (some 97) rfl rfl (.inl ⟨rfl, fun w' hSw => by go_simp⟩) hS0 ?_
     simp only [Act.put, n1, n2, n3]
     refine zbm 3 (.agg #[.iface 23 (.pointer (some ⟨b, 0, none⟩))]) (some 98) rfl rfl (.inl ⟨rfl, fun w' hSw => by have s1 := hSw.1; clear hSw; go_simp⟩) hS0 ?_
     simp only [Act.put, n1, n2, n3]
     refine zbm 4 (.pointer (some ⟨y, 0, none⟩)) (some 99) rfl rfl (.inl ⟨rfl, fun w' hSw => by go_simp⟩) hS0 ?_
     simp only [Act.put, n1, n2, n3]
     refine zbm 5 (.pointer (some ⟨y, 0, none⟩)) (some 100) rfl rfl (.inl ⟨rfl, fun w' hSw => by go_simp⟩) hS0 ?_
     simp only [Act.put, n1, n2, n3]
     refine zbm 6 (.pointer (some ⟨y, 0, none⟩)) (some 101) rfl rfl (.inl ⟨rfl, fun w' hSw => by go_simp⟩) hS0 ?_
     simp only [Act.put, n1, n2, n3]
     refine zbm 7 (.pointer (some ⟨y, 0, none⟩)) (some 102) rfl rfl (.inl ⟨rfl, fun w' hSw => by go_simp⟩) hS0 ?_
     simp only [Act.put, n1, n2, n3]
     refine zbm 8 (.int .i64 bk) (some 103) rfl rfl (.inl ⟨rfl, fun w' hSw => by have s1 := hSw.2; clear hSw; go_simp⟩) hS0 ?_
     simp only [Act.put, n1, n2, n3]
     refine zbm 9 (.pointer (some ⟨y, 0, none⟩)) (some 104) rfl rfl (.inl ⟨rfl, fun w' hSw => by go_simp⟩) hS0 ?_
     simp only [Act.put, n1, n2, n3]
     refine zc9 (i := 10) (f := 93) (some 105) (by kernel_rfl) rfl rfl rfl (by first | (go_simp; done) | (go_simp; rfl)) BY.out ?_
     rintro e w4 ⟨g4, rfl, hb4, hz4, hbel4⟩
     have hs4 : w4.cell? ⟨dk, 0, none⟩ = some (.iface 23 (.pointer (some ⟨b, 0, none⟩))) /\ w4.cell? ⟨y, 0, none⟩ = some (.int .i64 bk) := ⟨(hbel4.cell (p := ⟨dk, 0, none⟩) HDKW.out.lt).trans S1.out.1, (hbel4.cell (p := ⟨y, 0, none⟩) (Blk.lt HNY.out)).trans S1.out.2⟩
     have S4 := zaa hs4
     have HB4 := zaa hb4
     have HBEL4 := zaa hbel4
     clear hb4 hbel4 hz4
     refine ⟨_, rfl, hs4, ?_⟩
     simp only [Act.put, n1, n2, n3]
     refine zke (i := 11) (f := 92) (some 106) (by kernel_rfl) rfl rfl rfl (by first | (go_simp; done) | (go_simp; rfl)) (zmh (K + k) b g base n bk 128 128 (some ⟨g4, 0, none⟩) cvk (zde m k) bytes (nby x.1 x.2) (cache ++ (zao T1).take k) w4 (HDK.out.drew.below HBEL4.out) hbn HKB.out (SlU.whole HB4.out HNL.out (by omega)) (by omega) hcl) rfl rfl ?_
     rintro e w5 (⟨cv5, rfl, hb1, hd5, ho5, hf5⟩ | ⟨hb1, f, rfl, hf, hd, ho⟩)
     rotate_left
     . exact .inr ⟨_, rfl, f, rfl, hf, hd, hb1, (HON.out.drew.below HBEL4.out).trans (ho.mono fun x _ e => .inl e)⟩
     have hs5 : w5.cell? ⟨dk, 0, none⟩ = some (.iface 23 (.pointer (some ⟨b, 0, none⟩))) /\ w5.cell? ⟨y, 0, none⟩ = some (.int .i64 bk) := ⟨(ho5.cell (p := ⟨dk, 0, none⟩) (Nat.lt_of_lt_of_le HDKW.out.lt HBEL4.out.size) (HDK.out.ne HDKW.out (by decide) (by decide) (by decide))).trans S4.out.1, (ho5.cell (p := ⟨y, 0, none⟩) (Nat.lt_of_lt_of_le (Blk.lt HNY.out) HBEL4.out.size) (HDK.out.ne HNY.out (by decide) (by decide) (by decide))).trans S4.out.2⟩
     refine .inl ⟨_, rfl, hs5, ?_⟩
     simp only [Act.put, n1, n2, n3]
     refine wpAnyH_done (by kernel_rfl) ?_ _
     refine PanicAt.normal ?_
     go_wp2
     rw [zxw HNL.out] at hd5
     have hz : W.heap.size <= wr.heap.size := HON.out.size
     have hz4 : wr.heap.size <= w4.heap.size := HBEL4.out.size
     go_roundw
     case rel =>
      refine ⟨k + 1, cv5, by omega, by go_num, ?_, ?_, ?_⟩
      . rw [<- HST.out, <- HBK.out]; exact hd5
      . refine Only.trans' (HON.out.drew.below HBEL4.out) ho5 fun x hx hd => ?_
        rcases HCV.out x hd with h | h
        . exact h
        . omega
      . intro x hx
        rcases hf5 x hx with h | h
        . exact HCV.out x h
        . exact .inr (by omega)
     case measure => simp [intOf]; omega
   . have k1 : ¬ (k : Int) < (ds.length : Int) := by omega
     obtain rfl : k = ds.length := by omega
     have hfull : (zao T1).take ds.length = zao T1 := by rw [<- HWL.out, List.take_length]
     rw [hfull] at hdk
     have HDK := zaa hdk
     have HON := zaa hon
     have HCV := zaa hcv
     clear hdk hon hcv hfull
     go_wp2
     go_meet
     exact ⟨cvk, HDK.out, HON.out, HCV.out⟩
 case rest =>
  obtain ⟨cvk, hdk, hon, hcv⟩ := hcut
  rename_i hK
  have hroot : (q0 = none /\ T1.rblk = 0 /\ T1.rgen = 0) \/ ∃ b0 dd pv kv, q0 = some ⟨b0, 0, none⟩ /\ NodeAt wc b0 T1.rblk T1.rgen dd pv kv := by
   rcases H0.out.tree with ⟨e1, e2, _⟩ | ⟨h, nn, b0, e1, e2, e3⟩
   . left
     injection e2 with e2
     exact ⟨e2, by unfold Tree.rblk; rw [e1], by unfold Tree.rgen; rw [e1]⟩
   . right
     injection e2 with e2
     obtain ⟨pv, kv, hnn⟩ := e3.nodeAt
     refine ⟨b0, Tr.dirty h nn, pv, kv, e2, ?_⟩
     have e4 : T1.rblk = Tr.blk h nn := by unfold Tree.rblk; rw [e1]
     have e5 : T1.rgen = Tr.gen h nn := by unfold Tree.rgen; rw [e1]
     rw [e4, e5]
     exact Blk.only hnn hon (H0.out.mid.disk.ne hnn (by decide) (by decide) (by decide))
  exact hK _ _ (zxv _ F H (K + ds.length) b g base n cvk (zde m ds.length) bytes (cache ++ zao T1) dk hd ds s sl gn T1.rblk T1.rgen q0 keys W₀ wc (fun x hx => (hcv x hx).elim (hF x) fun h => .inr (by have := H0.out.mid.H_; omega)) (HW.out.trans (hon.mono fun x _ hx => (hF x hx).elim .inl fun h => .inr (.inr (.inr h))))
   (H0.out.mid.dfp hon hdk (zd6 m _) hcv H0.out.num) (H4.out.only hon (H0.out.mid.disk.ne H4.out (by decide) (by decide) (by decide))) (H7.out.only hon (H0.out.mid.disk.ne H7.out (by decide) (by decide) (by decide))) hroot hsl hgn hrb hrg (fun _ _ h => h.up HWL.out) _ _ _ _ _ _ _ _ _ _ _ _ _ _ _ _ _ _ _ _ _ _ _ _ _ _ _ _ _ _ _ _ _ _ _ _ _ _ _ _ _ _ _ _ _ _ _ _ _ _ _ _ _ _ _ _ _ _ _ _ _ _ _ _ _ _ _ _ _ _ _ _ _ _ _ _ _ _ _ _ _ _ _ _ _ _ _ _ _ _ _ _ _ _ _ _ _ _ _ _ _ _ _ _ _ _ _ _ _ _ _ _ _ _ _ _ _ _ _ _ _ _ _ _ _ _ _ _ _ _ _ _ _ _)
set_option maxHeartbeats 1000000 in
theorem zwc (g blk gen : Nat) (B : List UInt8) (w : World) (hb : Blk w g 5 (bc B).toArray) (hl : B.length = 128) (hs : sealedN B = false) :
   Calls Tryz.prog 173 #[.slice (some ⟨g, 0, none⟩) 128 128, .agg #[.int .i64 blk, .int .u32 gen]] w fun e w' => e = .returned (.tuple #[.pointer none, .bool false]) /\ Below w.heap.size w w' := by
 have hsl := SlU.whole hb hl (by omega)
 have hbox : Below w.heap.size w (w.alloc (.cells #[.int .i64 blk, .int .u32 gen] 134)) := (Below.refl _ _).alloc (Nat.le_refl _) _
 have HSL := zaa (fun k => zgd (some ⟨g, 0, none⟩) 128 128 B ((w.alloc (.cells #[.int .i64 blk, .int .u32 gen] 134)).drewN k) (hsl.below (zad hbox k)) (by omega) (by omega))
 rw [hs] at HSL
 have HB := zaa hbox
 clear hsl hbox hs hb hl
 go_enter Tryz.func173, Tryz.ntmps173
 go_wp2
 go_quiet (first | ((go_at_call 194; exact zep (HSL.out _))))
 go_wp2
 go_ret2
 exact ⟨rfl, zad HB.out _⟩
def LQ (rd : Nat -> List UInt8) (n G : Nat) (h : Nat) (t : Tr h) : Prop := (2 <= Tr.blk h t /\ Tr.blk h t < n) /\ Tr.gen h t <= G /\ Tr.size h t <= 116 /\ 1 <= Tr.len h t /\ Tr.dirty h t = false /\ (rd (Tr.blk h t) = nby h t \/ sealedN (rd (Tr.blk h t)) = false)
theorem zxy (t : Tr 0) : nby 0 t = zfo (Nd.blk t) (Nd.gen t) 1 (Nd.es t).length ((Nd.es t).flatMap pby) := rfl
theorem zul {h : Nat} (t : Tr (h + 1)) : nby (h + 1) t = zfo (Nd.blk t) (Nd.gen t) 2 (Nd.es t).length ((Nd.es t).flatMap (kbl (Tr.blk h) (Tr.gen h))) := rfl
theorem zmj (h : Nat) (t : Tr h) : sealedN (nby h t) = true := ze0 _
def good (rd : Nat -> List UInt8) : (h : Nat) -> Tr h -> Bool
 | 0, n => sealedN (rd (Nd.blk n))
 | h + 1, n => sealedN (rd (Nd.blk n)) && (Nd.es n).all fun e => good rd h e.2
def zfa {K : Type} (lo : Str) (es : List (Str × K)) (k : Nat) : Str := if h : 0 < k /\ k - 1 < es.length then (es[k - 1]'h.2).1 else lo
theorem zif {K : Type} (lo : Str) (es : List (Str × K)) : zfa lo es 0 = lo := dif_neg (by omega)
theorem zdp {K : Type} (lo : Str) (es : List (Str × K)) (k : Nat) (h : k < es.length) : zfa lo es (k + 1) = es[k].1 := by
 unfold zfa
 rw [dif_pos ⟨by omega, by simpa using h⟩]
 rfl
def hiS : Option Str -> Str
 | none => ⟨#[]⟩
 | some k => k
def LrAt (w : World) (L b G U : Nat) (keys : Int) : Prop := Blk w L 231 #[.iface 23 (.pointer (some ⟨b, 0, none⟩)), .int .u32 G, .map (some U), .int .i64 keys]
structure zqf (w : World) (K b g base n : Nat) (cv : Value) (m : Nums) (bytes : List UInt8) (cache : List (Nat × List UInt8)) (L U G : Nat) (keys : Int) (Lu : List Nat) : Prop where
 disk : Dk w K b g base n cv m bytes cache
 calm : m.calm
 lr : LrAt w L b G U keys
 used : UsedAt w U Lu
 nlo : 8 <= n
 nhi : n <= 400
 num : K + 1 < zbf
 gen : G < 4294967296
 k0 : 0 <= keys
 k1 : keys <= 1000000
end Go.Proofs.YtemondlgcmpbbaaGreatDoor
