/- Dw Yd Ye: merged. -/
import Derived.Test.YtemondlgcmpbbaaGreatDoorMP35
namespace Go.Proofs.YtemondlgcmpbbaaGreatDoor
open Go.RowKit
set_option maxRecDepth 100000
variable {N K b n x G : Nat} {wr : Value} {T : Tree} {r : SR} {rs : List Rdr} {w w' : World}
end Go.Proofs.YtemondlgcmpbbaaGreatDoor
namespace Go.Proofs.YtemondlgcmpbbaaGreatDoor
open Go.RowKit
set_option maxRecDepth 100000
theorem zyq {Q : (h : Nat) -> Tr h -> Prop} : ∀ {h : Nat} {t : Tr h}, NS Q h t -> NS (fun h' t' => Q h' t' /\ Tr.blk h' t' ∈ blks h t) h t
 | 0, t, hq => ⟨hq, by simp [blks, Tr.blk]⟩
 | h + 1, t, hq => ⟨⟨hq.1, by simp [blks, Tr.blk]⟩, fun e he => (zyq (hq.2 e he)).mono fun _ _ q => ⟨q.1, List.mem_append_left _ (List.mem_flatMap.2 ⟨e, he, q.2⟩)⟩⟩
theorem zyg {b b' : List UInt8} (h : b'.take 32 = b.take 32) : pOk b' = pOk b := by unfold pOk zdz pGen pBlk pRgen; rw [h]
theorem zr7 {s : Nat} {b b' : List UInt8} (h : b'.take 32 = b.take 32) : headOf s b' = headOf s b := by unfold headOf pGen pBlk pRgen; rw [h]
theorem zkj {c c' : Nat -> List UInt8} : ∀ k, (∀ i, i < k -> (c' i).take 32 = (c i).take 32) -> headUp c' k = headUp c k
 | 0, _ => rfl
 | k + 1, h => by
   unfold headUp
   rw [zkj k fun i hi => h i (by omega), zyg (h k (Nat.lt_succ_self _)), zr7 (h k (Nat.lt_succ_self _))]
theorem DInv.keep {rd rd' : Nat -> List UInt8} {n : Nat} {hd : Hd} {T : Tree} (h : DInv rd n hd T) (hs : ∀ i, i < 2 -> (rd' i).take 32 = (rd i).take 32) (hb : ∀ i, 2 <= i -> i < n -> i ∈ T.blks -> rd' i = rd i) : DInv rd' n hd T := by
 refine ⟨?_, h.root, fun k t hr => (zyq (h.on k t hr)).mono (R := LQ1 rd' n hd.gen) fun k' t' hq => hq.1.next (Nat.le_refl _) (hb _ hq.1.1.1 hq.1.1.2 (by unfold Tree.blks; rw [hr]; exact hq.2)), h.nd⟩
 obtain ⟨tl, hh⟩ := h.heads
 refine ⟨tl, ?_⟩
 rw [<- hh]
 unfold zba
 rw [zkj 2 hs]
structure Torn (n : Nat) (bytes : List UInt8) (cache : List (Nat × List UInt8)) (rd : Nat -> List UInt8) : Prop where
 other : ∀ i, i < n -> (∀ x ∈ cache, x.1 ≠ i) -> rd i = dread bytes [] i
 head : ∀ i, i < n -> (rd i).take 32 = (dread bytes [] i).take 32 \/ ∃ x ∈ cache, x.1 = i /\ (rd i).take 32 = x.2.take 32
theorem Torn.full (n : Nat) (bytes : List UInt8) (cache : List (Nat × List UInt8)) : Torn n bytes cache (dread bytes cache) := by
 have key : ∀ (i : Nat) (l : List (Nat × List UInt8)) (acc : List UInt8), ((∀ x ∈ l, x.1 ≠ i) -> l.foldl (fun acc x => if x.1 = i then x.2 else acc) acc = acc) /\ (l.foldl (fun acc x => if x.1 = i then x.2 else acc) acc = acc \/ ∃ x ∈ l, x.1 = i /\ l.foldl (fun acc x => if x.1 = i then x.2 else acc) acc = x.2) := by
  intro i l
  induction l with
  | nil => exact fun acc => ⟨fun _ => rfl, .inl rfl⟩
  | cons y l ih =>
    intro acc
    rw [List.foldl_cons]
    refine ⟨fun hx => ?_, ?_⟩
    . rw [if_neg (hx y (List.mem_cons_self ..))]
      exact (ih acc).1 fun x hm => hx x (List.mem_cons_of_mem _ hm)
    . rcases (ih (if y.1 = i then y.2 else acc)).2 with e | ⟨x, hm, e1, e2⟩
      . rw [e]
        by_cases hy : y.1 = i
        . rw [if_pos hy]
          exact .inr ⟨y, List.mem_cons_self .., hy, rfl⟩
        . rw [if_neg hy]
          exact .inl rfl
      . exact .inr ⟨x, List.mem_cons_of_mem _ hm, e1, e2⟩
 refine ⟨fun i _ hx => (key i cache _).1 hx, fun i _ => ?_⟩
 rcases (key i cache ((bytes.drop (i * 128)).take 128)).2 with e | ⟨x, hm, e1, e2⟩
 . exact .inl (by show (dread bytes cache i).take 32 = _; unfold dread; rw [e]; rfl)
 . exact .inr ⟨x, hm, e1, by show (dread bytes cache i).take 32 = _; unfold dread; rw [e2]⟩
theorem zyh {T1 : Tree} {n G : Nat} {rd : Nat -> List UInt8} {xs : List Nat} (hu : TF T1) (_hc : CInv rd n G T1) (hxb : ∀ x ∈ xs, 2 <= x /\ x < n) (hxl : xs.length = zar T1) {g : Nat} : (zao (T1.lay g true xs)).map (·.1) = xs /\ ∀ x ∈ zao (T1.lay g true xs), x.1 < n /\ x.2.length = 128 := by
 cases hr : T1.root with
 | none =>
   have hTr : (T1.lay g true xs).root = none := by unfold Tree.lay; rw [hr]; rfl
   have hw : zao (T1.lay g true xs) = [] := by unfold zao Tree.dlist; rw [hTr]; rfl
   have h0 : zar T1 = 0 := by unfold zar; rw [hr]
   rw [h0] at hxl
   rw [hw, List.length_eq_zero_iff.1 hxl]
   exact ⟨rfl, fun x hx => by cases hx⟩
 | some r =>
   obtain ⟨h, t⟩ := r
   have hTr : (T1.lay g true xs).root = some ⟨h, lay g true h t xs⟩ := by unfold Tree.lay; rw [hr]; rfl
   have hw : zao (T1.lay g true xs) = (dlist h (lay g true h t xs)).map fun x => (Tr.blk x.1 x.2, nby x.1 x.2) := by unfold zao Tree.dlist; rw [hTr]
   have htd : zar T1 = zae h t := by unfold zar; rw [hr]
   rw [htd] at hxl
   obtain ⟨_, hfit, hdu, _⟩ := hu.some_ h t hr
   have hdb := zji g h t xs hdu hxl
   have hfst : (zao (T1.lay g true xs)).map (·.1) = xs := by rw [hw, List.map_map]; exact hdb
   have hlayfit : Fit h (lay g true h t xs) := (zc8 g true h t xs).fit hfit
   refine ⟨hfst, fun x hx => ⟨(hxb x.1 (by rw [<- hfst]; exact List.mem_map.2 ⟨x, hx, rfl⟩)).2, ?_⟩⟩
   rw [hw] at hx
   obtain ⟨y, hy, rfl⟩ := List.mem_map.1 hx
   exact zm8 (zid h _ (zjb h _ hlayfit) y hy).here
theorem z0b {bytes : List UInt8} {n c : Nat} {hd : Hd} {T T1 : Tree} {xs : List Nat} (hb : bytes.length = c * 128) (hnc : n <= c) (hn : 8 <= n /\ n <= 400) (hD : DInv (dread bytes []) n hd T) (hgen : hd.gen + 1 < 1073741824) (hu : TF T1) (hc : CInv (dread bytes []) n hd.gen T1) (hsz : TN (fun h n => Tr.size h n <= 116 /\ 1 <= Tr.len h n) T1)
   (hxs : xs.Nodup) (hxb : ∀ x ∈ xs, (2 <= x /\ x < n) /\ x ∉ T1.cblks) (hxl : xs.length = zar T1) (hxo : ∀ x ∈ xs, x ∉ T.blks) {g : Nat} (hg : g = hd.gen + 1) {TT : Tree} (hT : TT = T1.lay g true xs)
   {bytes' : List UInt8} {cache' : List (Nat × List UInt8)} {D : Nat} (hcut : CutAt D bytes [] (zao TT) (1 - hd.slot, pad 128 (zam g TT.rblk TT.rgen)) bytes' cache') {rd : Nat -> List UInt8} (ht : Torn n bytes' cache' rd) :
   DInv rd n hd T \/ DInv rd n ⟨1 - hd.slot, g, TT.rblk, TT.rgen⟩ (T1.lay g false xs) := by
 obtain ⟨hfst, hwok⟩ := zyh hu hc (fun x hx => (hxb x hx).1) hxl (g := g)
 rw [<- hT] at hfst hwok
 have hnew := zhx hb hnc hn hD.heads hgen hu hc hsz hxs hxb hxl hg hT
 have hin : ∀ x ∈ zao TT, x.1 ∈ xs := fun x hx => by rw [<- hfst]; exact List.mem_map.2 ⟨x, hx, rfl⟩
 have hwokc : ∀ x ∈ zao TT, x.1 < c /\ x.2.length = 128 := fun x hx => ⟨Nat.lt_of_lt_of_le (hwok x hx).1 hnc, (hwok x hx).2⟩
 have hb2 : (zap bytes (zao TT)).length = c * 128 := zdr (zao TT) bytes hb hwokc
 have hpl : (pad 128 (zam g TT.rblk TT.rgen)).length = 128 := zb5 _ _ (by show (32 : Nat) <= 128; omega)
 have hfl : ∀ i, i < n -> i ∉ xs -> dread (zap bytes (zao TT)) [] i = dread bytes [] i := fun i hi hx => zc5 (zao TT) bytes i hb hwokc (Nat.lt_of_lt_of_le hi hnc) fun x hm e => hx (e ▸ hin x hm)
 obtain ⟨tl, hh⟩ := hD.heads
 obtain ⟨hsl, _, _⟩ := zhp _ 2 hd (zb6 _ hd (by rw [hh]; exact List.mem_cons_self ..))
 have hx2 : ∀ i, i < 2 -> i ∉ xs := fun i hi hx => by have := (hxb i hx).1.1; omega
 have hxT : ∀ i, i ∈ T.blks -> i ∉ xs := fun i hi hx => hxo i hx hi
 rcases hcut with ⟨j, _, rfl, rfl⟩ | ⟨rfl, rfl | rfl⟩
 . have hno : ∀ i, i ∉ xs -> ∀ x ∈ [] ++ (zao TT).take j, x.1 ≠ i := fun i hi x hx e => hi (e ▸ hin x (List.mem_of_mem_take (by simpa using hx)))
   exact .inl (hD.keep (fun i hi => by rw [ht.other i (by omega) (hno i (hx2 i hi))]) fun i h2 hi hm => ht.other i hi (hno i (hxT i hm)))
 . rw [List.nil_append] at ht
   have hall : ∀ i, i < n -> rd i = dread (zap bytes (zao TT)) [] i := fun i hi => ht.other i hi fun x hx => by cases hx
   exact .inl (hD.keep (fun i hi => by rw [hall i (by omega), hfl i (by omega) (hx2 i hi)]) fun i h2 hi hm => by rw [hall i hi, hfl i hi (hxT i hm)])
 . rw [List.nil_append] at ht
   have hall : ∀ i, i < n -> i ≠ 1 - hd.slot -> rd i = dread (zap bytes (zao TT)) [] i := fun i hi hne => ht.other i hi fun x hx e => by
    rw [List.mem_singleton.1 hx] at e
    exact hne e.symm
   rcases ht.head (1 - hd.slot) (by omega) with e | ⟨x, hx, _, e⟩
   . refine .inl (hD.keep (fun i hi => ?_) fun i h2 hi hm => by rw [hall i hi (by omega), hfl i hi (hxT i hm)])
     by_cases hne : i = 1 - hd.slot
     . rw [hne, e, hfl _ (by omega) (hx2 _ (by omega))]
     . rw [hall i (by omega) hne, hfl i (by omega) (hx2 i hi)]
   . rw [List.mem_singleton.1 hx] at e
     refine .inr (hnew.keep (fun i hi => ?_) fun i h2 hi _ => by rw [hall i hi (by omega), zbz hb2 (by omega) (Nat.lt_of_lt_of_le hi hnc) hpl (by omega)])
     by_cases hne : i = 1 - hd.slot
     . rw [hne, e, zcg hb2 (by omega) hpl]
     . rw [hall i (by omega) hne, zbz hb2 (by omega) (by omega) hpl hne]
theorem z0c (b : Nat) (bv cv : Value) (m : Nums) (q : Int) (w : World) (h : DkAt w b bv cv m) (hs : m.small) (hq : 0 <= q /\ q <= 1000) :
   Calls Tryz.prog 37 #[.pointer (some ⟨b, 0, none⟩), .int .i64 q] w fun e w' => e = .returned (.tuple #[]) /\ DkAt w' b bv cv { m with off := m.calls + q } /\ Only (· = b) w w' := by
 have c2 := zab h 2 rfl
 have c5 := zab h 5 rfl
 have f5 : w.frozen? ⟨b, 5, none⟩ = false := h.frozen 5
 have hw : IntKind.i64.wrap (m.calls + q) = m.calls + q := by rw [IntKind.wrap_i64]; have := hs.1; have := hs.2.1; omega
 have H := zaa h
 clear h
 go_enter Tryz.func37, Tryz.ntmps37
 go_wp2
 go_end0
 exact ⟨rfl, H.out.set_ 5 (.int .i64 (m.calls + q)), Only.set1 _ _ _ _⟩
theorem znb (b : Nat) (bv cv : Value) (m : Nums) (p k : Int) (w : World) (h : DkAt w b bv cv m) (hs : m.small) (hp : 0 <= p /\ p <= 1000) (hk : 0 <= k /\ k <= 1000) :
   Calls Tryz.prog 40 #[.pointer (some ⟨b, 0, none⟩), .int .i64 p, .int .i64 k] w fun e w' => e = .returned (.tuple #[]) /\ DkAt w' b bv cv { m with bfrom := m.calls + p, bto := m.calls + p + k } /\ Only (· = b) w w' := by
 have c2 := zab h 2 rfl
 have c6 := zab h 6 rfl
 have c7 := zab h 7 rfl
 have f6 : w.frozen? ⟨b, 6, none⟩ = false := h.frozen 6
 have f7 : w.frozen? ⟨b, 7, none⟩ = false := h.frozen 7
 have hw : IntKind.i64.wrap (m.calls + p) = m.calls + p := by rw [IntKind.wrap_i64]; have := hs.1; have := hs.2.1; omega
 have hw2 : IntKind.i64.wrap (m.calls + p + k) = m.calls + p + k := by rw [IntKind.wrap_i64]; have := hs.1; have := hs.2.1; omega
 have H := zaa h
 have kk : ∀ v, (w.setCell ⟨b, 6, none⟩ v).drew.cell? ⟨b, 2, none⟩ = some (.int .i64 m.calls) := fun v => zab (Blk.drew (Blk.set_ h 6 v)) 2 rfl
 have kk2 : ∀ v u, ((w.setCell ⟨b, 6, none⟩ v).setCell ⟨b, 7, none⟩ u).drew.cell? ⟨b, 2, none⟩ = some (.int .i64 m.calls) := fun v u => zab (Blk.drew (Blk.set_ (Blk.set_ h 6 v) 7 u)) 2 rfl
 have ff : ∀ v, (w.setCell ⟨b, 6, none⟩ v).drew.frozen? ⟨b, 7, none⟩ = false := fun v => (Blk.drew (Blk.set_ h 6 v)).frozen 7
 have f6d : w.drew.frozen? ⟨b, 6, none⟩ = false := (Blk.drew h).frozen 6
 clear h
 go_enter Tryz.func40, Tryz.ntmps40
 have c2d : w.drew.cell? ⟨b, 2, none⟩ = some (.int .i64 m.calls) := c2
 go_wp2
 go_region_held3 (fun w' => w'.cell? ⟨b, 2, none⟩ = some (.int .i64 m.calls)) (first | exact c2d | exact kk _ | exact kk2 _ _ | assumption | go_keep) (fail)
 go_wp2
 go_end0
 exact ⟨rfl, Blk.drew ((Blk.set_ H.out 6 (.int .i64 (m.calls + p))).set_ 7 (.int .i64 (m.calls + p + k))), ((Only.set1 _ _ _ _).set2 _ _).drew⟩
theorem zq3 {w w' : World} {K b g base n : Nat} {cv : Value} {m m' : Nums} {bytes : List UInt8} {cache : List (Nat × List UInt8)} (h : Dk w K b g base n cv m bytes cache) (hd : DkAt w' b (.slice (some ⟨g, 0, none⟩) n (zdb bytes)) cv m') (ho : Only (· = b) w w') (hm : m'.sm K) : Dk w' K b g base n cv m' bytes cache :=
 ⟨hd, Blk.only h.blk ho (h.at_.ne_ h.blk (by decide)).symm, h.len, h.cap, za0 h.own ho (zda h.at_ (by decide)), h.ok, h.many, hm, h.fits, Nat.le_trans h.base_ ho.size⟩
structure StoreO (N : Nat) (w : World) (K b n x t : Nat) (T : Tree) (r : SR) (m : Nums) : Prop where
 disk : Dk w K b r.g r.base n (.slice none 0 0) m r.bytes []
 dkb : Blk w r.dk 151 (#[dev b] ++ r.hd.cells)
 slot : r.hd.slot < 2
 gen : r.hd.gen + 1 < 1073741824
 db : DbAt w x ⟨r.dk, r.rp, T.keys, .pointer (some ⟨t, 0, none⟩), r.rd, false⟩
 rd : RdAt w r.rd []
 tree : TreeV (fun z => z < w.heap.size) w T r.rp []
 nb : N <= b
 ng : N <= r.g
 ndk : N <= r.dk
 nx : N <= x
 nrd : N <= r.rd
theorem StoreO.size {N K b n x t : Nat} {T : Tree} {r : SR} {m : Nums} {w : World} (h : StoreO N w K b n x t T r m) : N <= w.heap.size := Nat.le_trans h.nx (Nat.le_of_lt (Blk.lt h.db))
section
variable {N K b n x G : Nat} {T : Tree} {r : SR} {w w' : World}
theorem zyr {z : Nat} {X : TypeId} {cs : Array Value} {bv cv : Value} {m : Nums} (hb : DkAt w b bv cv m) (hz : Blk w z X cs) (hX : Imm X) : z ≠ b := Blk.ne_ hz hb fun e => zbl (X := 103) (by decide) (by decide) (by decide) (e ▸ hX)
theorem StoreR.off {t : Nat} {m' : Nums} (h : StoreR N w K b n x G (.pointer (some ⟨t, 0, none⟩)) T r []) (hG : G + 1 < 1073741824) (hd : DkAt w' b (.slice (some ⟨r.g, 0, none⟩) n (zdb r.bytes)) (.slice none 0 0) m') (ho : Only (· = b) w w') (hm : m'.sm K) : StoreO N w' K b n x t T r m' := by
 have hne : ∀ {y X cs}, Blk w y X cs -> X ≠ 103 -> ¬ y = b := fun hy hX e => Blk.ne_ hy h.disk.at_ hX e
 exact ⟨zq3 h.disk hd ho hm, h.dkb.only ho (hne h.dkb (by decide)), h.slot, by have := h.gen; omega, Blk.only h.db ho (hne h.db (by decide)), h.rd.only ho (h.rd.ne_blk h.disk.at_), (h.tree.only ho fun z X cs _ hz hX e => zyr h.disk.at_ hz hX e).more fun z hz => Nat.lt_of_lt_of_le hz ho.size, h.nb, h.ng, h.ndk, h.nx, h.nrd⟩
theorem Trans.off {t S : Nat} {T1 : Tree} {rp bv cv : Value} {ds : List Nat} {stamp : Int} {m : Nums} (h : Trans N w t x S T1 rp ds stamp) (hb : DkAt w b bv cv m) (ho : Only (· = b) w w') : Trans N w' t x S T1 rp ds stamp :=
 ⟨Blk.only h.tx ho (fun e => Blk.ne_ h.tx hb (by decide) e), (h.tree.only ho fun z X cs _ hz hX e => zyr hb hz hX e).more fun z hz => Nat.lt_of_lt_of_le hz ho.size, h.nd, h.nds, h.nt, h.s0, h.s1⟩
theorem zms {V V' : Str -> Prop} {t S : Nat} {T1 : Tree} {rp : Value} {ds : List Nat} {stamp : Int} {m : Nums} (h : StoreO N w K b n x t T r m) (ht : Trans N w t x S T1 rp ds stamp) (hg : Good V T1) (hg0 : Good V' T) (hn : 8 <= n /\ n <= 400) (hK : K + 200 < zbf) (hroom : T1.keys + T.keys + 10 <= n) (hd : zar T1 <= 190) (hgl : Glob w) (hN : 0 < N) (hDI : DInv (dread r.bytes []) n r.hd T) (hC : CInv (dread r.bytes []) n r.hd.gen T1) :
   Calls Tryz.prog 26 #[.pointer (some ⟨t, 0, none⟩)] w fun e w' => KpP N w w' /\ ∃ cv' m' bytes' cache' T' hd', Dk w' (K + 200) b r.g r.base n cv' m' bytes' cache' /\ Later m m' /\ Good V T' /\ T'.pairs = T1.pairs /\ hd'.gen = r.hd.gen + 1 /\
    ((e = .returned .nilIface /\ (∀ rd, Torn n bytes' cache' rd -> DInv rd n hd' T') /\ DbAt w' x ⟨r.dk, rp, T1.keys, .pointer none, r.rd, false⟩ /\ RdAt w' r.rd [] /\ TxAt w' t ⟨x, rp, T1.keys, true, true, stamp⟩) \/
    ∃ f, e = .returned (zau f) /\ zbj w' f zgp 8 /\ (∀ rd, Torn n bytes' cache' rd -> DInv rd n r.hd T \/ DInv rd n hd' T') /\ DbAt w' x ⟨r.dk, r.rp, T.keys, .pointer none, r.rd, true⟩ /\ TxAt w' t ⟨x, rp, T1.keys, true, true, stamp⟩) := by
 have hlen : ds.length = zar T1 := ht.tree.count
 have hrm := zs7 hg hg0 (rp0 := r.rp) hlen hroom
 have hxl : (zbb [(T, r.rp, [])] T1 n ds.length).length = zar T1 := by
  unfold zbb
  rw [List.length_take, <- hlen]
  exact Nat.min_eq_left hrm
 have hxb : ∀ y ∈ zbb [(T, r.rp, [])] T1 n ds.length, (2 <= y /\ y < n) /\ y ∉ T1.cblks := fun y hy => by
  obtain ⟨a1, a2, a3⟩ := zh2 (List.mem_of_mem_take hy)
  refine ⟨⟨a1, a2⟩, fun hm => a3 ?_⟩
  unfold zb2
  rw [zg0]
  exact .inr hm
 have hxo : ∀ y ∈ zbb [(T, r.rp, [])] T1 n ds.length, y ∉ T.blks := fun y hy hm => (zh2 (List.mem_of_mem_take hy)).2.2 (by
  unfold zb2
  rw [zg0]
  exact .inl ((zg0 _ _).2 (.inr (by simpa using hm))))
 have hnd : (zbb [(T, r.rp, [])] T1 n ds.length).Nodup := (zp5 _ _ _).sublist (List.take_sublist ..)
 have hDN := zhx (g := r.hd.gen + 1) h.disk.len h.disk.cap hn hDI.heads h.gen hg.tf hC hg.tf.sizes hnd hxb hxl rfl rfl
 have hCI := fun {bytes' : List UInt8} {cache' : List (Nat × List UInt8)} {D : Nat} (hcut : CutAt D r.bytes [] _ _ bytes' cache') {rd : Nat -> List UInt8} (htn : Torn n bytes' cache' rd) => z0b (g := r.hd.gen + 1) h.disk.len h.disk.cap hn hDI h.gen hg.tf hC hg.tf.sizes hnd hxb hxl hxo rfl rfl hcut htn
 have hb0 : ¬ dfp b r.g (.slice none 0 0) 0 := fun e => by
  have := h.nb
  have := h.ng
  rcases e with e | e | e
  . omega
  . omega
  . simp [Value.ownBlock] at e
 refine (zki t x rp T1 ds stamp ⟨r.dk, r.rp, T.keys, .pointer (some ⟨t, 0, none⟩), r.rd, false⟩ T K b r.g r.base n (.slice none 0 0) m r.bytes [] r.hd w ht.tx h.db rfl h.rd rfl
  ⟨h.disk, .inr ⟨hgl, hb0⟩, h.dkb, ht.tree, ht.nd, h.tree, hn, h.slot, h.gen, hg.tf.q0, hg.sm, hrm, by omega, by simp⟩).mono ?_
 intro e w' hp
 have hlay := hg.lay (g := r.hd.gen + 1) (n0 := n) (xs := zbb [(T, r.rp, [])] T1 n ds.length) (by have := h.gen; omega) (by omega) (by omega) (fun y hy => (zh2 (List.mem_of_mem_take hy)).2.1)
 have hkp : Only (fun y => (dfp b r.g (.slice none 0 0) y \/ y = r.dk \/ y ∈ ds) \/ y = t \/ y = x \/ y = r.rd) w w' -> KpP N w w' := fun ho => KpP.of_only ho h.size (fun y e => by
  rcases e with (e | rfl | e) | rfl | rfl | rfl
  . rcases e with rfl | rfl | e
    . exact h.nb
    . exact h.ng
    . simp [Value.ownBlock] at e
  . exact h.ndk
  . exact ht.nds y e
  . exact ht.nt
  . exact h.nx
  . exact h.nrd) fun X hX y cs hy e => by
  rcases e with (e | e | e) | e | e | e
  . exact h.disk.ne hy (hX.ne (by decide) (by decide)) (hX.ne (by decide) (by decide)) (hX.ne (by decide) (by decide)) e
  . exact Blk.ne_ hy h.dkb (hX.ne (by decide) (by decide)) e
  . obtain ⟨_, _, _, _, hn⟩ := ht.tree.dirt _ e
    exact Blk.ne_ hy hn (hX.ne (by decide) (by decide)) rfl
  . exact Blk.ne_ hy ht.tx (hX.ne (by decide) (by decide)) e
  . exact Blk.ne_ hy h.db (hX.ne (by decide) (by decide)) e
  . exact h.rd.ne_blk hy e.symm
 rcases hp with ⟨rfl, hp⟩ | ⟨m1, f, cv', bytes', cache', a1, a2, rfl, a4, a5, a6, a7, a8, a9, a10, a11⟩
 . refine ⟨hkp hp.only, _, _, _, _, T1.lay (r.hd.gen + 1) false (zbb [(T, r.rp, [])] T1 n ds.length), ⟨1 - r.hd.slot, r.hd.gen + 1, (T1.lay (r.hd.gen + 1) true (zbb [(T, r.rp, [])] T1 n ds.length)).rblk, (T1.lay (r.hd.gen + 1) true (zbb [(T, r.rp, [])] T1 n ds.length)).rgen⟩, hp.disk.more (by omega), ?_, hlay.1, Tree.lay_pairs _ _ _ _, rfl, .inl ⟨rfl, fun rd htn => ?_, hp.db, hp.rd, hp.tx⟩⟩
   . exact (((zd6 m _).tick.wrote).tick)
   . exact hDN.keep (fun i hi => by rw [htn.other i (by omega) fun x hx => by cases hx]; rfl) fun i _ hi _ => htn.other i hi fun x hx => by cases hx
 . exact ⟨hkp a11, cv', _, bytes', cache', T1.lay (r.hd.gen + 1) false (zbb [(T, r.rp, [])] T1 n ds.length), ⟨1 - r.hd.slot, r.hd.gen + 1, (T1.lay (r.hd.gen + 1) true (zbb [(T, r.rp, [])] T1 n ds.length)).rblk, (T1.lay (r.hd.gen + 1) true (zbb [(T, r.rp, [])] T1 n ds.length)).rgen⟩, a7.more (by omega), a2.tick, hlay.1, Tree.lay_pairs _ _ _ _, rfl, .inr ⟨f, rfl, a4, fun rd htn => hCI a8 htn, a9, a10⟩⟩
end
end Go.Proofs.YtemondlgcmpbbaaGreatDoor
