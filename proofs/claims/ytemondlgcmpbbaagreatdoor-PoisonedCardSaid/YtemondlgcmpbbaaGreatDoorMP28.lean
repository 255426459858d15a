/- Km Kn Lq: merged. -/
import Derived.Test.YtemondlgcmpbbaaGreatDoorMP27
import Derived.Deep.Slices
import Derived.Test.YtemondlgcmpbbaaGreatDoorMP26
namespace Go.Proofs.YtemondlgcmpbbaaGreatDoor
open Go.RowKit
set_option maxRecDepth 100000
set_option maxHeartbeats 6400000 in
theorem zz0 (K b g base n : Nat) (cv : Value) (m : Nums) (bytes : List UInt8) (cache : List (Nat × List UInt8)) (dk : Nat) (hd : Hd) (T : Tree) (q0 : Option Addr) (ds : List Nat) (A : Option Addr) (c : Nat) (R : List (Tree × Value × List Nat)) (w : World) (h : zie w K b g base n cv m bytes cache dk hd T (.pointer q0) ds A c R)
   (s : Nat -> NdS) (hs : ∀ j (hj : j < ds.length), zb3 w ds[j] (s j)) (hsd : ∀ j, j < ds.length -> (s j).dirty = true) (sl gn : Nat) (hsl : sl = 1 - hd.slot) (hgn : gn = hd.gen + 1) (T1 : Tree) (hT1 : T1 = T.lay gn true ((fr (zb2 R T) n 2).take ds.length)) :
   Calls Tryz.prog 60 #[.pointer (some ⟨dk, 0, none⟩), za7 (.pointer q0) T.keys, .slice A R.length c] w
    (ComEnd (dfp b g cv) w.heap.size K ds.length b g base n m bytes cache (zao T1) dk hd ds (fun j => (s j).at_ ((fr (zb2 R T) n 2).getD j 0) gn) sl gn T1.rblk T1.rgen w) := by
 have C1 := zaa (fun (u1 u3 u5 u7 u8 u9 u10 u11 u12 u13 u14 u15 u16 u17 u18 u19 u20 u21 u22 u23 u24 u25 u26 u27 u28 u29 u30 u31 u32 u33 u34 u35 u36 u37 u38 u39 u40 u41 u42 u43 u44 u45 u46 u47 u48 u49 u50 u51 u52 u53 u54 u55 u56 u57 u58 u59 u60 u61 u62 u63 u64 u65 u66 u67 u68 u69 u70 u71 u72 u73 u74 u75 u76 u77 u78 u79 u80 u81 u82 u83 u84 u85 u86 u87 u88 u89 u90 u91 u92 u93 u94 u95 u96 u97 u98 u99 u100 u101 u102 u103 u104 u105 u106 u107 u108 u109 u110 u111 u112 u113 u114 u115 u116 u117 u118 u119 u120 u121 u122 u123 u124 u125 u126 u127 u128 u129 u130 u131 u132 u133 u134 u135 u136 u137 u138 u139 : Value) => zzz K b g base n cv m bytes cache dk hd T q0 ds A c R w h s hs hsd sl gn hsl hgn T1 hT1 _ rfl u1 u3 u5 u7 u8 u9 u10 u11 u12 u13 u14 u15 u16 u17 u18 u19 u20 u21 u22 u23 u24 u25 u26 u27 u28 u29 u30 u31 u32 u33 u34 u35 u36 u37 u38 u39 u40 u41 u42 u43 u44 u45 u46 u47 u48 u49 u50 u51 u52 u53 u54 u55 u56 u57 u58 u59 u60 u61 u62 u63 u64 u65 u66 u67 u68 u69 u70 u71 u72 u73 u74 u75 u76 u77 u78 u79 u80 u81 u82 u83 u84 u85 u86 u87 u88 u89 u90 u91 u92 u93 u94 u95 u96 u97 u98 u99 u100 u101 u102 u103 u104 u105 u106 u107 u108 u109 u110 u111 u112 u113 u114 u115 u116 u117 u118 u119 u120 u121 u122 u123 u124 u125 u126 u127 u128 u129 u130 u131 u132 u133 u134 u135 u136 u137 u138 u139)
 clear h hs hsd hsl hgn hT1
 unfold za7
 go_enter_defers Tryz.func60, Tryz.ntmps60
 go_upto_region 0 with fail
 go_cut [4, 6] from 4 to 6 (fun s4 s6 wx => s4 = .pointer (some ⟨w.heap.size, 0, none⟩) /\ s6 = .pointer (some ⟨w.heap.size + 1, 0, none⟩) /\ wx = (w.alloc (.cells #[.pointer q0, .int .i64 T.keys] 88)).alloc (.cells #[.nilIface] 31))
 case first =>
  go_wp2
  go_meet
  exact ⟨rfl, rfl, rfl⟩
 case rest =>
  obtain ⟨rfl, rfl, rfl⟩ := hcut
  rename_i hK
  exact hK _ _ (C1.out _ _ _ _ _ _ _ _ _ _ _ _ _ _ _ _ _ _ _ _ _ _ _ _ _ _ _ _ _ _ _ _ _ _ _ _ _ _ _ _ _ _ _ _ _ _ _ _ _ _ _ _ _ _ _ _ _ _ _ _ _ _ _ _ _ _ _ _ _ _ _ _ _ _ _ _ _ _ _ _ _ _ _ _ _ _ _ _ _ _ _ _ _ _ _ _ _ _ _ _ _ _ _ _ _ _ _ _ _ _ _ _ _ _ _ _ _ _ _ _ _ _ _ _ _ _ _ _ _ _ _ _ _ _ _ _)
theorem FRep.restr {ok fp : Nat -> Prop} {w : World} (hfp : ∀ z T cs, Blk w z T cs -> Imm T -> ¬ fp z) : ∀ {h : Nat} {t : Tr h} {b : Nat} {ds : List Nat}, FRep ok w h t b ds -> FRep (fun z => ok z /\ z < w.heap.size /\ ¬ fp z) w h t b ds := by
 intro h
 induction h with
 | zero =>
   intro t b ds ⟨A1, c1, A2, c2, hn, hb, hr, hd⟩
   refine ⟨A1, c1, A2, c2, hn, ⟨hb, Blk.lt hn.node, hfp b _ _ hn.node zkv⟩, fun h0 a ha => ?_, hd⟩
   obtain ⟨g, cur, e, hg⟩ := hn.ps.row_blk h0
   rw [ha] at e
   injection e with e
   exact ⟨hr h0 a ha, hn.ps.row_lt h0 a ha, hfp _ _ _ (e ▸ hg) zkw⟩
 | succ h ih =>
   intro t b ds ⟨A1, c1, A2, c2, bs, dss, hn, hb, hr, hk, hd⟩
   refine ⟨A1, c1, A2, c2, bs, dss, hn, ⟨hb, Blk.lt hn.node, hfp b _ _ hn.node zkv⟩, fun h0 a ha => ?_, hk.mono fun _ _ _ hk => ih hk, hd⟩
   obtain ⟨g, cur, e, hg⟩ := hn.ks.row_blk h0
   rw [ha] at e
   injection e with e
   exact ⟨hr h0 a ha, hn.ks.row_lt h0 a ha, hfp _ _ _ (e ▸ hg) zkx⟩
theorem TreeV.restr {ok fp : Nat -> Prop} {w : World} (hfp : ∀ z T cs, Blk w z T cs -> Imm T -> ¬ fp z) {t : Tree} {rp : Value} {ds : List Nat} (h : TreeV ok w t rp ds) : TreeV (fun z => ok z /\ z < w.heap.size /\ ¬ fp z) w t rp ds :=
 h.imp id fun ⟨h, n, b, e1, e2, e3⟩ => ⟨h, n, b, e1, e2, e3.restr hfp⟩
theorem TreeV.more {ok ok' : Nat -> Prop} {w : World} {t : Tree} {rp : Value} {ds : List Nat} (h : TreeV ok w t rp ds) (hs : ∀ z, ok z -> ok' z) : TreeV ok' w t rp ds := h.move (fun _ _ => rfl) hs
theorem TreeV.dirt {ok : Nat -> Prop} {w : World} {t : Tree} {rp : Value} {ds : List Nat} (h : TreeV ok w t rp ds) : ∀ y ∈ ds, zjr w y := by
 rcases h with ⟨_, _, rfl⟩ | ⟨h, n, b, _, _, e3⟩
 . intro y hy; cases hy
 . exact e3.dirt
instance : Inhabited NdS := ⟨⟨0, 0, false, .nilIface, .nilIface⟩⟩
def zbb (R : List (Tree × Value × List Nat)) (T : Tree) (n k : Nat) : List Nat := (fr (zb2 R T) n 2).take k
structure zwe (w : World) (K b g base n : Nat) (cv : Value) (m : Nums) (bytes : List UInt8) (cache : List (Nat × List UInt8)) (dk : Nat) (hd : Hd) (T : Tree) (rp : Value) (ds : List Nat) (R : List (Tree × Value × List Nat)) (w' : World) : Prop where
 disk : Dk w' (K + ds.length + 3) b g base n (.slice none 0 0) (zde m ds.length).tick.wrote.tick (zcp (zap bytes (cache ++ zao (T.lay (hd.gen + 1) true (zbb R T n ds.length)))) (1 - hd.slot, pad 128 (zam (hd.gen + 1) (T.lay (hd.gen + 1) true (zbb R T n ds.length)).rblk (T.lay (hd.gen + 1) true (zbb R T n ds.length)).rgen))) []
 dkb : Blk w' dk 151 (#[dev b] ++ zay (1 - hd.slot) (hd.gen + 1) (T.lay (hd.gen + 1) true (zbb R T n ds.length)).rblk (T.lay (hd.gen + 1) true (zbb R T n ds.length)).rgen)
 tree : TreeV (fun z => z < w.heap.size) w' (T.lay (hd.gen + 1) false (zbb R T n ds.length)) rp []
 others : ∀ T0 rp0, TreeV (fun z => z < w.heap.size) w T0 rp0 [] -> TreeV (fun z => z < w.heap.size) w' T0 rp0 []
 only : Only (fun y => dfp b g cv y \/ y = dk \/ y ∈ ds) w w'
def zwf (w : World) (K b g base n : Nat) (cv : Value) (m : Nums) (bytes : List UInt8) (cache : List (Nat × List UInt8)) (dk : Nat) (hd : Hd) (T : Tree) (ds : List Nat) (R : List (Tree × Value × List Nat)) (e : Ending) (w' : World) : Prop :=
 ∃ m1 f cv' bytes' cache', m1.bad = true /\ Later m m1 /\ e = .returned (zau f) /\ zbj w' f zgp 8 /\ Glob w' /\ w.heap.size <= f /\ Dk w' (K + ds.length + 3) b g base n cv' m1.tick bytes' cache' /\
   CutAt ds.length bytes cache (zao (T.lay (hd.gen + 1) true (zbb R T n ds.length))) (1 - hd.slot, pad 128 (zam (hd.gen + 1) (T.lay (hd.gen + 1) true (zbb R T n ds.length)).rblk (T.lay (hd.gen + 1) true (zbb R T n ds.length)).rgen)) bytes' cache' /\ Only (fun y => dfp b g cv y \/ y = dk \/ y ∈ ds) w w'
theorem zun (K b g base n : Nat) (cv : Value) (m : Nums) (bytes : List UInt8) (cache : List (Nat × List UInt8)) (dk : Nat) (hd : Hd) (T : Tree) (rp : Value) (ds : List Nat) (A : Option Addr) (c : Nat) (R : List (Tree × Value × List Nat)) (w : World) (h : zie w K b g base n cv m bytes cache dk hd T rp ds A c R) :
   Calls Tryz.prog 60 #[.pointer (some ⟨dk, 0, none⟩), za7 rp T.keys, .slice A R.length c] w fun e w' => (e = .returned .nilIface /\ zwe w K b g base n cv m bytes cache dk hd T rp ds R w') \/ zwf w K b g base n cv m bytes cache dk hd T ds R e w' := by
 obtain ⟨q0, rfl⟩ := h.tree.ptr
 obtain ⟨s, hs⟩ := Go.Deep.choose_lt (α := NdS) (n := ds.length) (p := fun j x => ∀ hj : j < ds.length, zb3 w ds[j] x /\ x.dirty = true) (fun j hj => by
  obtain ⟨blk, gen, pv, kv, hn⟩ := h.tree.dirt ds[j] (List.getElem_mem hj)
  exact ⟨⟨blk, gen, true, pv, kv⟩, fun _ => ⟨hn, rfl⟩⟩)
 have hs1 : ∀ j (hj : j < ds.length), zb3 w ds[j] (s j) := fun j hj => (hs j hj hj).1
 have hs2 : ∀ j, j < ds.length -> (s j).dirty = true := fun j hj => (hs j hj hj).2
 refine (zz0 K b g base n cv m bytes cache dk hd T q0 ds A c R w h s hs1 hs2 _ _ rfl rfl _ rfl).mono ?_
 have hon : ∀ {w' : World}, Only (fun y => dfp b g cv y \/ y = dk \/ y ∈ ds \/ w.heap.size <= y) w w' -> Only (fun y => dfp b g cv y \/ y = dk \/ y ∈ ds) w w' := fun ho => ho.mono fun x hx hxx => by
  rcases hxx with h | h | h | h
  . exact .inl h
  . exact .inr (.inl h)
  . exact .inr (.inr h)
  . omega
 rintro e w' (⟨he, hdk, hdb, hn, ho⟩ | ⟨m1, f, cv', bytes', cache', a1, a2, a3, a4, a5, a6, a7, a8, _, _, a9⟩)
 rotate_left
 . exact .inr ⟨m1, f, cv', bytes', cache', a1, a2, a3, a4, a5, a6, a7, a8, hon a9⟩
 have hroom := h.room
 have hxl : ds.map (fun y => (fr (zb2 R T) n 2).getD (ds.idxOf y) 0) = zbb R T n ds.length := zs5 h.nd hroom
 have hfp : ∀ z T cs, Blk w z T cs -> Imm T -> ¬ (dfp b g cv z \/ z = dk) := fun z T' cs hz hT e => by
  have hne : T' ≠ 103 /\ T' ≠ 111 /\ T' ≠ 113 /\ T' ≠ 151 := ⟨fun e => zbl (X := 103) (by decide) (by decide) (by decide) (e ▸ hT), fun e => zbl (X := 111) (by decide) (by decide) (by decide) (e ▸ hT), fun e => zbl (X := 113) (by decide) (by decide) (by decide) (e ▸ hT), fun e => zbl (X := 151) (by decide) (by decide) (by decide) (e ▸ hT)⟩
  rcases e with e | e
  . exact h.disk.ne hz hne.1 hne.2.1 hne.2.2.1 e
  . exact Blk.ne_ hz h.dkb hne.2.2.2 e
 have hlaid : Laid (fun z => z < w.heap.size /\ z < w.heap.size /\ ¬ (dfp b g cv z \/ z = dk)) ds (fun y => (fr (zb2 R T) n 2).getD (ds.idxOf y) 0) (hd.gen + 1) false w w' := by
  refine ⟨h.tree.dirt, fun y hy blk gen pv kv hny => ?_, fun y hok hnot hl => ?_⟩
  . obtain ⟨j, hj, rfl⟩ := List.getElem_of_mem hy
    have e := Blk.same (hs1 j hj) hny
    simp only [Array.mk.injEq, List.cons.injEq, Value.int.injEq, true_and, and_true] at e
    have hi : ds.idxOf ds[j] = j := h.nd.idxOf_getElem j hj
    have := hn j hj
    unfold zb3 NdS.at_ at this
    simp only at this
    simp only [hi]
    rw [<- e.2.2.2.1, <- e.2.2.2.2]
    exact this
  . refine ho.block y hl (fun e => ?_)
    rcases e with e | e | e | e
    . exact hok.2.2 (.inl e)
    . exact hok.2.2 (.inr e)
    . exact hnot e
    . omega
 refine .inl ⟨he, hdk, hdb, ?_, fun T0 rp0 h0 => ((h0.restr hfp).laid0 hlaid).more fun z hz => hz.1, hon ho⟩
 have := (h.tree.restr hfp).lay hlaid (fun y hy => hy)
 rw [hxl] at this
 exact this.more fun z hz => hz.1
def zdf {K : Type} (hi : Option Str) (X : List (Str × K)) (i : Nat) : Option Str := if h : i + 1 < X.length then some (X[i + 1]'h).1 else hi
theorem zf5 {K : Type} {W : Str -> Option Str -> K -> Prop} : ∀ {X : List (Str × K)} {lo : Str} {hi : Option Str}, Chain W lo hi X -> ∀ i (h : i < X.length), W X[i].1 (zdf hi X i) X[i].2 /\ (i = 0 -> X[i].1 = lo) /\ (0 < i -> slt (zfa lo X i) X[i].1 = true /\ zbd hi X[i].1) /\ slt X[i].1 lo = false
 | [], _, _, _, i, h => by simp at h
 | a :: X, lo, hi, hc, 0, _ => by
   obtain ⟨c1, c2, c3⟩ := hc
   refine ⟨?_, fun _ => c1, fun h => absurd h (Nat.lt_irrefl _), ?_⟩
   . show W a.1 (zdf hi (a :: X) 0) a.2
     rw [c1]
     rcases c3 with ⟨rfl, c4⟩ | ⟨k, k1, k2, k3, k4⟩
     . have : zdf hi [a] 0 = hi := dif_neg (by simp)
       rw [this]; exact c4
     . cases X with
       | nil => exact absurd rfl (zxa k4)
       | cons b X =>
         have hb : b.1 = k := zlq k4
         have : zdf hi (a :: b :: X) 0 = some k := by unfold zdf; rw [dif_pos (by simp)]; exact congrArg some hb
         rw [this]; exact k3
   . show slt a.1 lo = false
     rw [c1]; exact zbh _
 | a :: X, lo, hi, hc, i + 1, h => by
   obtain ⟨c1, c2, c3⟩ := hc
   rcases c3 with ⟨rfl, c4⟩ | ⟨k, k1, k2, k3, k4⟩
   . simp at h
   . have hi' : i < X.length := by simpa using h
     obtain ⟨f1, f2, f3, f4⟩ := zf5 k4 i hi'
     have hn : zdf hi (a :: X) (i + 1) = zdf hi X i := by
      unfold zdf
      simp only [List.length_cons, Nat.add_lt_add_iff_right, List.getElem_cons_succ]
     have hlt : slt k X[i].1 = true \/ k = X[i].1 := by
      rcases zjl k X[i].1 with h | h | h
      . exact .inl h
      . exact .inr h
      . rw [f4] at h; cases h
     have hlo : slt lo X[i].1 = true := by
      rcases hlt with h | h
      . exact zbs k1 h
      . rw [<- h]; exact k1
     refine ⟨by rw [hn]; exact f1, fun h => by omega, fun _ => ?_, zbt hlo⟩
     show slt (zfa lo (a :: X) (i + 1)) X[i].1 = true /\ zbd hi X[i].1
     rw [zdp lo (a :: X) i (by simp; omega)]
     by_cases h0 : i = 0
     . subst h0
       have e := f2 rfl
       show slt a.1 X[0].1 = true /\ zbd hi X[0].1
       rw [c1]
       exact ⟨hlo, by rw [e]; exact k2⟩
     . obtain ⟨g1, g2⟩ := f3 (by omega)
       obtain ⟨j, rfl⟩ : ∃ j, i = j + 1 := ⟨i - 1, by omega⟩
       rw [zdp k X j (by omega)] at g1
       exact ⟨g1, g2⟩
def zle (w : World) (K b g base n : Nat) (cv : Value) (m : Nums) (bytes : List UInt8) (cache : List (Nat × List UInt8)) (L U G : Nat) (keys : Int) (Lu : List Nat) (h : Nat) (t : Tr h) : Ending -> World -> Prop := fun e w' =>
 ∃ (k : Nat) (v : Value), k <= nodes h t /\ e = .returned (.tuple #[v, .bool (good (dread bytes cache) h t)]) /\ Dk w' (K + k) b g base n cv (za6 m k) bytes cache /\ Only (fun x => x = b \/ x = U \/ x = L) w w' /\
   (good (dread bytes cache) h t = true -> ∃ b' Lu', v = P b' /\ FRep (fun z => w.heap.size <= z) w' h t b' [] /\ LrAt w' L b G U (keys + (Tr.pairs h t).length) /\ UsedAt w' U Lu' /\ ∀ x, x ∈ Lu' ↔ x ∈ Lu \/ x ∈ blks h t) /\ (good (dread bytes cache) h t = false -> v = .pointer none)
def zqk (b g base n : Nat) (cv : Value) (bytes : List UInt8) (cache : List (Nat × List UInt8)) (L U G : Nat) (lo : Str) (hi : Option Str) (h : Nat) (t : Tr h) : Prop :=
 ∀ (K : Nat) (m : Nums) (keys : Int) (Lu : List Nat) (d : Int) (w : World), zqf w K b g base n cv m bytes cache L U G keys Lu -> K + nodes h t < zbf -> keys + (Tr.pairs h t).length <= 1000000 -> 0 <= d -> d + h <= 40 -> (∀ x ∈ blks h t, x ∉ Lu) ->
   Calls Tryz.prog 144 #[.pointer (some ⟨L, 0, none⟩), .agg #[.int .i64 (Tr.blk h t), .int .u32 (Tr.gen h t)], .string lo, .string (hiS hi), .int .i64 d] w (zle w K b g base n cv m bytes cache L U G keys Lu h t)
section
variable (w : World) (K b g base n : Nat) (cv : Value) (m : Nums) (bytes : List UInt8) (cache : List (Nat × List UInt8)) (L U G : Nat) (keys : Int) (Lu : List Nat) (blk gen b' gk c HP : Nat) {h : Nat} (es : List (Str × Tr h))
structure LbS (i k : Nat) (bs Lu' : List Nat) (wr : World) : Prop where
 kle : k <= 1 + ((es.take i).map fun e => nodes h e.2).sum
 disk : Dk wr (K + k) b g base n cv (za6 m k) bytes cache
 lr : LrAt wr L b G U (keys + (kpairs h (es.take i)).length)
 used : UsedAt wr U Lu'
 mem : ∀ x, x ∈ Lu' ↔ x ∈ Lu \/ x = blk \/ x ∈ (es.take i).flatMap fun e => blks h e.2
 all_ : ((es.take i).all fun e => good (dread bytes cache) h e.2) = true
 bl : bs.length = es.length
 own : wr.ownsRow w.heap.size 139 2 (.slice (some ⟨gk, 0, none⟩) es.length c) es.length (kcells es bs)
 kids : ∀ j (hj : j < es.length) (hj2 : j < bs.length), if j < i then FRep (fun z => HP <= z) wr h es[j].2 bs[j] [] else NodeAt wr bs[j] (Tr.blk h es[j].2) (Tr.gen h es[j].2) false (.slice none 0 0) (.slice none 0 0)
 node : NodeAt wr b' blk gen false (.slice none 0 0) (.slice (some ⟨gk, 0, none⟩) es.length c)
 hp : HP <= wr.heap.size
 only : Only (fun x => x = b \/ x = U \/ x = L) w wr
end
def z2o (w : World) (K b g base n : Nat) (cv : Value) (m : Nums) (bytes : List UInt8) (cache : List (Nat × List UInt8)) (L U G : Nat) (keys : Int) (Lu : List Nat) (lo : Str) (blk gen b' gk c HP : Nat) {h : Nat} (es : List (Str × Tr h)) (s14 s149 : Value) (wr : World) : Prop :=
 ∃ (i k : Nat) (bs Lu' : List Nat), i <= es.length /\ s149 = .int .i64 i /\ s14 = .string (zfa lo es i) /\ LbS w K b g base n cv m bytes cache L U G keys Lu blk gen b' gk c HP es i k bs Lu' wr
theorem zjc (m : Nums) (a : Nat) : ∀ c, za6 m (a + c) = za6 (za6 m a) c
 | 0 => rfl
 | c + 1 => by show (za6 m (a + c)).tick = (za6 (za6 m a) c).tick; rw [zjc m a c]
theorem zkh {K : Type} : ∀ (es : List (Str × K)) (bs : List Nat) (i b : Nat), i < es.length -> bs.length = es.length -> (kcells es bs).set (i * 2 + 1) (P b) = kcells es (bs.set i b)
 | [], _, _, _, h, _ => by simp at h
 | _ :: _, [], _, _, _, h => by simp at h
 | e :: es, b0 :: bs, 0, b, _, _ => rfl
 | e :: es, b0 :: bs, i + 1, b, h, hb => by
   have := zkh es bs i b (by simpa using h) (by simpa using hb)
   rw [show (i + 1) * 2 + 1 = i * 2 + 1 + 1 + 1 by omega]
   simp only [kcells, List.set_cons_succ]
   rw [this]
theorem FRep.only3 {ok : Nat -> Prop} {w w' : World} {h : Nat} {t : Tr h} {b0 : Nat} {ds : List Nat} {fp : Nat -> Prop} (hf : FRep ok w h t b0 ds) (ho : Only fp w w') (hfp : ∀ z T cs, Blk w z T cs -> Imm T -> ¬ fp z) : FRep ok w' h t b0 ds :=
 (hf.restr hfp).move (fun x hx => ho.block x hx.2.1 hx.2.2) (fun _x hx => hx.1)
section
variable {w wr w4 : World} {K b g base n : Nat} {cv : Value} {m : Nums} {bytes : List UInt8} {cache : List (Nat × List UInt8)} {L U G : Nat} {keys : Int} {Lu : List Nat} {blk gen b' gk c HP : Nat} {h : Nat} {es : List (Str × Tr h)} {i k : Nat} {bs Lu' : List Nat}
theorem LbS.ne (s : LbS w K b g base n cv m bytes cache L U G keys Lu blk gen b' gk c HP es i k bs Lu' wr) {z : Nat} {T : TypeId} {cs : Array Value} (hz : Blk wr z T cs) (h1 : T ≠ 103) (h2 : T ≠ 231) : ¬ (z = b \/ z = U \/ z = L) := by
 rintro (e | e | e)
 . exact Blk.ne_ hz s.disk.at_ h1 e
 . exact s.used.ne_blk hz e.symm
 . exact Blk.ne_ hz s.lr h2 e
theorem LbS.imm (s : LbS w K b g base n cv m bytes cache L U G keys Lu blk gen b' gk c HP es i k bs Lu' wr) : ∀ z T cs, Blk wr z T cs -> Imm T -> ¬ (z = b \/ z = U \/ z = L) := by
 rintro z T cs hz hT
 refine s.ne hz ?_ ?_ <;> (rintro rfl; rcases hT with e | e | e <;> exact absurd e (by decide))
theorem LbS.step (s : LbS w K b g base n cv m bytes cache L U G keys Lu blk gen b' gk c HP es i k bs Lu' wr) (hlt : i < es.length) (hgk : gk < HP) (hgw : w.heap.size <= gk) {k2 b4 : Nat} {Lu4 : List Nat} (hk2 : k2 <= nodes h es[i].2) (hd : Dk w4 (K + k + k2) b g base n cv (za6 (za6 m k) k2) bytes cache) (ho : Only (fun x => x = b \/ x = U \/ x = L) wr w4) (hg : good (dread bytes cache) h es[i].2 = true)
   (hf : FRep (fun z => wr.heap.size <= z) w4 h es[i].2 b4 []) (hl : LrAt w4 L b G U (keys + (kpairs h (es.take i)).length + (Tr.pairs h es[i].2).length)) (hu : UsedAt w4 U Lu4) (hm : ∀ x, x ∈ Lu4 ↔ x ∈ Lu' \/ x ∈ blks h es[i].2) :
   LbS w K b g base n cv m bytes cache L U G keys Lu blk gen b' gk c HP es (i + 1) (k + k2) (bs.set i b4) Lu4 (w4.setCell ⟨gk, i * 2 + 1, none⟩ (P b4)) := by
 have htk : es.take (i + 1) = es.take i ++ [es[i]] := List.take_succ_eq_append_getElem hlt
 have hset : Only (· = gk) w4 (w4.setCell ⟨gk, i * 2 + 1, none⟩ (P b4)) := Only.set1 _ _ _ _
 have hown4 : w4.ownsRow w.heap.size 139 2 (.slice (some ⟨gk, 0, none⟩) es.length c) es.length (kcells es bs) := za0 s.own ho (fun y cs hy => s.ne hy (by decide) (by decide))
 obtain ⟨g', cur, e1, _, hcur, _⟩ := zb0 hown4 (by omega)
 injection e1 with e1
 injection e1 with e1 _
 subst e1
 have hsum : ((es.take (i + 1)).map fun e => nodes h e.2).sum = ((es.take i).map fun e => nodes h e.2).sum + nodes h es[i].2 := by
  rw [htk, List.map_append, List.sum_append]
  simp only [List.map_cons, List.map_nil, List.sum_cons, List.sum_nil, Nat.add_zero]
 refine ⟨by rw [hsum]; have := s.kle; omega, ?_, ?_, hu.only hset (fun e => hu.ne_blk hcur e), ?_, ?_, by rw [List.length_set]; exact s.bl, ?_, ?_, ?_, ?_, ?_⟩
 . rw [zjc, <- Nat.add_assoc]
   refine hd.only hset (fun x hx e => ?_)
   rcases hx with h | h | h
   . exact Blk.ne_ hd.at_ hcur (by decide) (h.symm.trans e)
   . exact Blk.ne_ hd.blk hcur (by decide) (h.symm.trans e)
   . exact zag hd.own hcur (by decide) (by rw [<- h, e])
 . have : keys + ((kpairs h (es.take (i + 1))).length : Int) = keys + (kpairs h (es.take i)).length + (Tr.pairs h es[i].2).length := by
     rw [htk, zbn, za9, zls, List.append_nil, List.length_append]
     omega
   rw [this]
   exact Blk.only hl hset (fun e => Blk.ne_ hl hcur (by decide) e)
 . intro x
   rw [hm, s.mem, htk, List.flatMap_append]
   simp only [List.flatMap_cons, List.flatMap_nil, List.append_nil, List.mem_append]
   constructor
   . rintro ((h | h | h) | h)
     . exact .inl h
     . exact .inr (.inl h)
     . exact .inr (.inr (.inl h))
     . exact .inr (.inr (.inr h))
   . rintro (h | h | h | h)
     . exact .inl (.inl h)
     . exact .inl (.inr (.inl h))
     . exact .inl (.inr (.inr h))
     . exact .inr h
 . rw [htk, List.all_append, s.all_]
   simp [hg]
 . have := zjp hown4 (j := i * 2 + 1) (by omega) (P b4)
   rw [zkh es bs i b4 hlt s.bl] at this
   exact this
 . intro j hj hj2
   rw [List.length_set] at hj2
   have hs := s.kids j hj hj2
   by_cases hji : j = i
   . subst hji
     rw [if_pos (by omega), List.getElem_set_self]
     exact (hf.more (fun z hz => Nat.le_trans s.hp hz)).move (Agree.setCell _ _ _ (fun hz => by simp only at hz; omega)) (fun _ hz => hz)
   . rw [List.getElem_set_ne (Ne.symm hji)]
     by_cases hlt2 : j < i
     . rw [if_pos hlt2] at hs
       rw [if_pos (by omega)]
       exact (hs.only3 ho s.imm).move (Agree.setCell _ _ _ (fun hz => by simp only at hz; omega)) (fun _ hz => hz)
     . rw [if_neg hlt2] at hs
       rw [if_neg (by omega)]
       have h4 := Blk.only hs ho (s.ne hs (by decide) (by decide))
       exact Blk.only h4 hset (fun e => Blk.ne_ h4 hcur (by decide) e)
 . have h4 := Blk.only s.node ho (s.ne s.node (by decide) (by decide))
   exact Blk.only h4 hset (fun e => Blk.ne_ h4 hcur (by decide) e)
 . have := ho.size
   have := s.hp
   simp only [World.setCell] at *
   simpa [World.setCell] using (by omega : HP <= w4.heap.size)
 . exact (s.only.trans ho).setCell (.inr hgw) _
end
theorem LbS.row {w wr : World} {K b g base n : Nat} {cv : Value} {m : Nums} {bytes : List UInt8} {cache : List (Nat × List UInt8)} {L U G : Nat} {keys : Int} {Lu : List Nat} {blk gen b' gk c HP : Nat} {h : Nat} {es : List (Str × Tr h)} {i k : Nat} {bs Lu' : List Nat} (s : LbS w K b g base n cv m bytes cache L U G keys Lu blk gen b' gk c HP es i k bs Lu' wr) (j : Nat) (hj : j < es.length) :
   wr.cell? ⟨gk, j * 2, none⟩ = some (.string es[j].1) /\ wr.cell? ⟨gk, j * 2 + 1, none⟩ = some (P (bs[j]'(by rw [s.bl]; exact hj))) /\ wr.frozen? ⟨gk, j * 2 + 1, none⟩ = false /\ gk < wr.heap.size := by
 obtain ⟨g', cur, e1, _, hcur, htk, _⟩ := zb0 s.own (by omega)
 injection e1 with e1
 injection e1 with e1 _
 subst e1
 obtain ⟨p1, p2⟩ := zbv es bs j hj (by rw [s.bl]; exact hj)
 rw [<- htk] at p1 p2
 rw [List.getElem?_take, if_pos (by omega)] at p1 p2
 exact ⟨by rw [hcur.cell, <- Array.getElem?_toList]; exact p1, by rw [hcur.cell, <- Array.getElem?_toList]; exact p2, hcur.frozen _, hcur.lt⟩
def z1k (w : World) (K b g base n : Nat) (cv : Value) (m : Nums) (bytes : List UInt8) (cache : List (Nat × List UInt8)) (L U G : Nat) (keys : Int) (Lu : List Nat) (blk gen : Nat) {h : Nat} (es : List (Str × Tr h)) (e : Ending) (w' : World) : Prop :=
 ∃ (k : Nat) (v : Value), k <= 1 + (es.map fun e => nodes h e.2).sum /\ e = .returned (.tuple #[v, .bool (es.all fun e => good (dread bytes cache) h e.2)]) /\ Dk w' (K + k) b g base n cv (za6 m k) bytes cache /\ Only (fun x => x = b \/ x = U \/ x = L) w w' /\
   ((es.all fun e => good (dread bytes cache) h e.2) = true -> ∃ b' gk c HP bs Lu', v = P b' /\ w.heap.size <= b' /\ w.heap.size <= gk /\ w.heap.size <= HP /\ c <= maxLen /\ LbS w K b g base n cv m bytes cache L U G keys Lu blk gen b' gk c HP es es.length k bs Lu' w') /\ ((es.all fun e => good (dread bytes cache) h e.2) = false -> v = .pointer none)
theorem zql {α : Type} (f : α -> Nat) (es : List α) (i : Nat) (h : i < es.length) : ((es.take i).map f).sum + f es[i] <= (es.map f).sum := by
 have := congrArg (fun l => (List.map f l).sum) (List.take_append_drop i es)
 simp only [List.map_append, List.sum_append, List.drop_eq_getElem_cons h, List.map_cons, List.sum_cons] at this
 omega
theorem LbS.pre {w wr : World} {K b g base n : Nat} {cv : Value} {m : Nums} {bytes : List UInt8} {cache : List (Nat × List UInt8)} {L U G : Nat} {keys : Int} {Lu : List Nat} {blk gen b' gk c HP : Nat} {h : Nat} {es : List (Str × Tr h)} {i k : Nat} {bs Lu' : List Nat} (s : LbS w K b g base n cv m bytes cache L U G keys Lu blk gen b' gk c HP es i k bs Lu' wr) (hlt : i < es.length)
   (hcalm : m.calm) (hn1 : 8 <= n) (hn2 : n <= 400) (hG : G < 4294967296) (hk0 : 0 <= keys) (hnum : K + 1 + (es.map fun e => nodes h e.2).sum < zbf) (hkeys : keys + (kpairs h es).length <= 1000000) (hdis : ∀ x ∈ es.flatMap (fun e => blks h e.2), x ∉ Lu /\ x ≠ blk) (hnd : (es.flatMap fun e => blks h e.2).Nodup) :
   zqf wr (K + k) b g base n cv (za6 m k) bytes cache L U G (keys + (kpairs h (es.take i)).length) Lu' /\ K + k + nodes h es[i].2 < zbf /\ keys + (kpairs h (es.take i)).length + (Tr.pairs h es[i].2).length <= 1000000 /\ ∀ x ∈ blks h es[i].2, x ∉ Lu' := by
 have h1 : ((es.take i).map fun e => nodes h e.2).sum + nodes h es[i].2 <= (es.map fun e => nodes h e.2).sum := zql (fun e => nodes h e.2) es i hlt
 have h0 : 1 <= nodes h es[i].2 := by cases h with | zero => exact Nat.le_refl _ | succ h => exact Nat.le_add_right 1 _
 have hk := s.kle
 have hkp : (kpairs h (es.take i)).length + (Tr.pairs h es[i].2).length <= (kpairs h es).length := by
  have := congrArg (fun l => (kpairs h l).length) (List.take_append_drop i es)
  simp only [zbn, List.length_append, List.drop_eq_getElem_cons hlt, za9] at this
  omega
 refine ⟨⟨s.disk, zbg hcalm k, s.lr, s.used, hn1, hn2, by omega, hG, by omega, by omega⟩, by omega, by omega, fun x hx hm => ?_⟩
 have hxe : x ∈ es.flatMap fun e => blks h e.2 := List.mem_flatMap.2 ⟨es[i], List.getElem_mem hlt, hx⟩
 rcases (s.mem x).1 hm with h | h | h
 . exact (hdis x hxe).1 h
 . exact (hdis x hxe).2 h
 . rw [<- List.take_append_drop i es, List.flatMap_append, List.nodup_append] at hnd
   refine hnd.2.2 x h x ?_ rfl
   rw [List.drop_eq_getElem_cons hlt, List.flatMap_cons]
   exact List.mem_append_left _ hx
theorem zx1 (a : Str) (t1 t2 : Array TypeId) (t : TypeId) (_h : t1 = t2) (w : World) : (Builtin.max_ t1 t #[.string a, .string a]).run Tryz.prog w = .ok (.string a) w := by
 have hb : Op.bytesLess a.toList a.toList = false := zbh a
 simp [Builtin.max_, Builtin.max2, Op.stringOp, asBool, hb]
theorem LbS.row4 {w wr w4 : World} {K b g base n : Nat} {cv : Value} {m : Nums} {bytes : List UInt8} {cache : List (Nat × List UInt8)} {L U G : Nat} {keys : Int} {Lu : List Nat} {blk gen b' gk c HP : Nat} {h : Nat} {es : List (Str × Tr h)} {i k : Nat} {bs Lu' : List Nat} (s : LbS w K b g base n cv m bytes cache L U G keys Lu blk gen b' gk c HP es i k bs Lu' wr) (ho : Only (fun x => x = b \/ x = U \/ x = L) wr w4) (j : Nat) (hj : j < es.length) :
   w4.cell? ⟨gk, j * 2 + 1, none⟩ = some (P (bs[j]'(by rw [s.bl]; exact hj))) /\ w4.frozen? ⟨gk, j * 2 + 1, none⟩ = false := by
 obtain ⟨g', cur, e1, _, hcur, htk, _⟩ := zb0 s.own (by omega)
 injection e1 with e1
 injection e1 with e1 _
 subst e1
 have h4 := hcur.only ho (s.ne hcur (by decide) (by decide))
 obtain ⟨p1, p2⟩ := zbv es bs j hj (by rw [s.bl]; exact hj)
 rw [<- htk] at p2
 rw [List.getElem?_take, if_pos (by omega)] at p2
 exact ⟨by rw [h4.cell, <- Array.getElem?_toList]; exact p2, h4.frozen _⟩
theorem zqm {w : World} {K b g base n : Nat} {cv : Value} {m : Nums} {bytes : List UInt8} {cache : List (Nat × List UInt8)} {L U G : Nat} {keys : Int} {Lu : List Nat} {h : Nat} {t : Tr h} {args : Array Value} (hg : good (dread bytes cache) h t = true) (hc : Calls Tryz.prog 144 args w (zle w K b g base n cv m bytes cache L U G keys Lu h t)) :
   Calls Tryz.prog 144 args w fun e w' => ∃ k2 b4 Lu4, e = .returned (.tuple #[P b4, .bool true]) /\ k2 <= nodes h t /\ Dk w' (K + k2) b g base n cv (za6 m k2) bytes cache /\ Only (fun x => x = b \/ x = U \/ x = L) w w' /\ FRep (fun z => w.heap.size <= z) w' h t b4 [] /\ LrAt w' L b G U (keys + (Tr.pairs h t).length) /\ UsedAt w' U Lu4 /\ ∀ x, x ∈ Lu4 ↔ x ∈ Lu \/ x ∈ blks h t :=
 hc.mono fun e w' hp => by
  obtain ⟨k, v, h1, rfl, h3, h4, h5⟩ := hp
  obtain ⟨b4, Lu4, rfl, h7, h8, h9, h10⟩ := h5.1 hg
  rw [hg]
  exact ⟨k, b4, Lu4, rfl, h1, h3, h4, h7, h8, h9, h10⟩
theorem zz1 {w : World} {K b g base n : Nat} {cv : Value} {m : Nums} {bytes : List UInt8} {cache : List (Nat × List UInt8)} {L U G : Nat} {keys : Int} {Lu : List Nat} {h : Nat} {t : Tr h} {args : Array Value} (hg : good (dread bytes cache) h t = false) (hc : Calls Tryz.prog 144 args w (zle w K b g base n cv m bytes cache L U G keys Lu h t)) :
   Calls Tryz.prog 144 args w fun e w' => ∃ k2, e = .returned (.tuple #[.pointer none, .bool false]) /\ k2 <= nodes h t /\ Dk w' (K + k2) b g base n cv (za6 m k2) bytes cache /\ Only (fun x => x = b \/ x = U \/ x = L) w w' :=
 hc.mono fun e w' hp => by
  obtain ⟨k, v, h1, rfl, h3, h4, _, h5⟩ := hp
  rw [hg, h5 hg]
  exact ⟨k, rfl, h1, h3, h4⟩
theorem z1l {α : Type} {p : α -> Bool} {l : List α} {i : Nat} (h : i < l.length) (hp : p l[i] = false) : l.all p = false := by
 cases hl : l.all p with
 | false => rfl
 | true => rw [List.all_eq_true] at hl; rw [hl _ (List.getElem_mem h)] at hp; cases hp
set_option maxHeartbeats 8000000 in
theorem zr0 (K b g base n : Nat) (cv : Value) (m : Nums) (bytes : List UInt8) (cache : List (Nat × List UInt8)) (L U G blk gen deep : Nat) (keys : Int) (Lu : List Nat) (lo : Str) (hi : Option Str) {h : Nat} (es : List (Str × Tr h)) (w : World) (hpre : zqf w K b g base n cv m bytes cache L U G keys Lu)
   (h2 : 2 <= blk) (hbn : blk < n) (hgg : gen <= G) (hblk : blk ∉ Lu) (hdeep' : deep + (h + 1) <= 40) (hhi : ∀ k, hi = some k -> k ≠ ByteArray.empty) (hrd : dread bytes cache blk = zfo blk gen 2 es.length (es.flatMap (kbl (Tr.blk h) (Tr.gen h)))) (hw : Chain (WF h) lo hi es) (hes : ksum es <= 116) (h1 : 1 <= es.length)
   (hok : ∀ e ∈ es, e.1.size <= 8 /\ Tr.blk h e.2 < 65536 /\ Tr.gen h e.2 < 4294967296) (hnum : K + 1 + (es.map fun e => nodes h e.2).sum < zbf) (hkeys : keys + (kpairs h es).length <= 1000000) (hdis : ∀ x ∈ es.flatMap (fun e => blks h e.2), x ∉ Lu /\ x ≠ blk) (hndp : (es.flatMap fun e => blks h e.2).Nodup)
   (IH : ∀ i (hi' : i < es.length), zqk b g base n cv bytes cache L U G es[i].1 (zdf hi es i) h es[i].2) :
   Calls Tryz.prog 144 #[.pointer (some ⟨L, 0, none⟩), .agg #[.int .i64 blk, .int .u32 gen], .string lo, .string (hiS hi), .int .i64 deep] w (z1k w K b g base n cv m bytes cache L U G keys Lu blk gen es) := by
 have hdeep : deep <= 40 := by omega
 have hlen := zk3 es
 have hlen2 : es.length <= 16 := by omega
 have HOK := zaa hok
 have HES := zaa hes
 have HWF := zaa hw
 have HNUM := zaa hnum
 have HKEYS := zaa hkeys
 have HDIS := zaa hdis
 have HNDP := zaa hndp
 have HIH := zaa IH
 clear hok hes hw hnum hkeys hdis hndp IH
 obtain ⟨hdk, hcalm, hlr, hu, hn1, hn2, hnum, hG, hk0, hk1⟩ := hpre
 have mB := zfi
 have hbw : b < w.heap.size := hdk.at_.lt
 have hLw : L < w.heap.size := Blk.lt hlr
 have hUw : U < w.heap.size := hu.lt
 have hbL : ¬ b = L := fun e => Blk.ne_ hdk.at_ hlr (by decide) e
 have hUb : ¬ U = b := hu.ne_blk hdk.at_
 have hUL : ¬ U = L := hu.ne_blk hlr
 have hgU : ¬ U = g := hu.ne_blk hdk.blk
 obtain ⟨W0, hW0⟩ : ∃ W0, W0 = w.alloc (.cells #[.int .i64 blk, .int .u32 gen] 134) := ⟨_, rfl⟩
 have hb0 : Below w.heap.size w W0 := by rw [hW0]; exact (Below.refl _ _).alloc (Nat.le_refl _) _
 have hat0 : Blk W0 w.heap.size 134 #[.int .i64 blk, .int .u32 gen] := by rw [hW0]; exact Blk.new _ _ _
 have hlr0 := hlr.below hb0 hLw
 have hz0 : w.heap.size < W0.heap.size := hat0.lt
 have a0 := zab hat0 0 rfl
 have a1 := zab hat0 1 rfl
 have b0 := zab hlr0 0 rfl
 have b1 := zab hlr0 1 rfl
 have b2 := zab hlr0 2 rfl
 have b3 := zab hlr0 3 rfl
 have BL := zaa (fun k => zd8 b n (zdb bytes) (some ⟨g, 0, none⟩) cv m (W0.drewN k) (hdk.below (zad hb0 k)).at_)
 have lk := fun k => zhl (hu.below (zad hb0 k)) blk
 rw [if_neg hblk] at lk
 have q1 : (2 : Int) <= (blk : Int) := by omega
 have q2 : (blk : Int) < (n : Int) := by omega
 have q3 : (gen : Int) <= (G : Int) := by omega
 have q4 : (deep : Int) <= 40 := by omega
 have HHI := zaa hhi
 have HDK := zaa hdk
 have HCA := zaa hcalm
 have HU := zaa hu
 have HB0 := zaa hb0
 have HAT := zaa hat0
 have HLR := zaa hlr0
 have HLRW := zaa hlr
 have HN := zaa (And.intro hbL (And.intro hUb (And.intro hUL hgU)))
 have HRD := zaa hrd
 have HW0 := zaa hW0
 clear hdk hcalm hlr hu hb0 hat0 hlr0 hW0 hbL hUb hUL hgU hblk hrd hhi
 go_enter Tryz.func144, Tryz.ntmps144
 go_wp2_with fail
 rw [<- HW0.out]
 go_quiet (first | ((go_at_call 237; exact zco (BL.out _))))
 go_wp2_with fail
 clear lk q1 q2 q3 BL mB
 obtain ⟨W1, hW1⟩ : ∃ W1, W1 = W0.drewN nq := ⟨_, rfl⟩
 rw [<- hW1]
 have hO1 : Only (· = U) W0 W1 := by rw [hW1]; exact (Only.refl _ W0).drewN nq
 obtain ⟨w1, hrun, hu1, ho1, hs1⟩ := zg1 (w := W1.drew) (by have := (HU.out.below (zad HB0.out nq)).below (Below.refl _ _).drew; rwa [<- hW1] at this) blk
 have e0 := (hO1.cell (p := ⟨w.heap.size, 0, none⟩) (show w.heap.size < W0.heap.size from hz0) (show ¬ w.heap.size = U by omega)).trans a0
 have e2 := (hO1.cell (p := ⟨L, 2, none⟩) (show L < W0.heap.size by omega) (show ¬ L = U from fun e => HN.out.2.2.1 e.symm)).trans b2
 have hOA : Only (· = U) W0 w1 := hO1.drew.trans ho1
 clear hW1 hO1
 have hlr1 : LrAt w1 L b G U keys := HLR.out.only hOA (fun e => HN.out.2.2.1 e.symm)
 have hat1 : Blk w1 w.heap.size 134 #[.int .i64 blk, .int .u32 gen] := HAT.out.only hOA (by omega)
 have c0 := zab hat1 0 rfl
 have c1 := zab hat1 1 rfl
 have d0 := zab hlr1 0 rfl
 have d2 := zab hlr1 2 rfl
 have hd1 : Dk w1 K b g base n cv m bytes cache := by
  refine (HDK.out.below HB0.out).only hOA (fun x hx e => ?_)
  rcases hx with h | h | h
  . exact HN.out.2.1 (e.symm.trans h)
  . exact HN.out.2.2.2 (e.symm.trans h)
  . exact HU.out.not_own HDK.out.own (by rw [<- h, e])
 have HU1 := zaa hu1
 have HOA := zaa hOA
 have HLR1 := zaa hlr1
 have HAT1 := zaa hat1
 have HD1 := zaa hd1
 clear hu1 ho1 hs1 hOA hlr1 hat1 hd1
 go_region_held3 (fun w' => w'.cell? ⟨L, 2, none⟩ = some (.map (some U)) /\ w'.cell? ⟨w.heap.size, 0, none⟩ = some (.int .i64 blk)) (first | go_keep | exact ⟨d2, c0⟩) (fail)
 clear hrun a0 a1 b0 b1 b2 b3 e0 e2
 go_wp2_with fail
 have HR := zaa (zhd K b g base n blk cv m bytes cache w1.drew HD1.out.drew HCA.out.bad (by omega) (by omega))
 unfold vol at HR
 go_region_held3 (fun w' => w'.cell? ⟨L, 0, none⟩ = some (.iface 23 (.pointer (some ⟨b, 0, none⟩))) /\ w'.cell? ⟨w.heap.size, 0, none⟩ = some (.int .i64 blk) /\ w'.cell? ⟨w.heap.size, 1, none⟩ = some (.int .u32 gen)) (first | go_keep | exact ⟨i0, i1, i2⟩ | exact ⟨j0, j1, j2⟩) (first
  | (go_at_call 172; refine HR.out.mono ?_; rintro e w2 ⟨g', rfl, hd2, hg2, hz2, ho2⟩
     have hOB : Only (· = b) w1 w2 := (Only.refl (· = b) w1).drew.trans ho2
     have hlr2 : LrAt w2 L b G U keys := HLR1.out.only hOB (fun e => HN.out.1 e.symm)
     have hat2 : Blk w2 w.heap.size 134 #[.int .i64 blk, .int .u32 gen] := HAT1.out.only hOB (by omega)
     have i0 := zab hlr2 0 rfl
     have i1 := zab hat2 0 rfl
     have i2 := zab hat2 1 rfl
     have hu2 := HU1.out.only hOB (fun e => HN.out.2.1 e)
     rw [HRD.out] at hg2
     have HP := zaa (zpn (Tr.blk h) (Tr.gen h) g' blk gen es w2 hg2 HES.out h1 HOK.out (by omega) (by omega))
     have HOB := zaa hOB
     have HLR2 := zaa hlr2
     have HAT2 := zaa hat2
     have HD2 := zaa hd2
     have HU2 := zaa hu2
     clear hOB hlr2 hat2 hd2 hu2 hg2 hz2 ho2)
  | (go_at_call 173; refine HP.out.mono ?_; rintro e w3 ⟨b', kv, bs, rfl, hbb, hnd, hbs, hown, hstb, hb3⟩
     have j0 := za1 i0 hb3
     have j1 := za1 i1 hb3
     have j2 := za1 i2 hb3
     have HB3 := zaa hb3
     have HND := zaa hnd
     have HOWN := zaa hown
     have HBS := zaa hbs
     have HSTB := zaa hstb
     clear hnd hown hbs hstb
     clear hb3))
 have HO2S := zaa (show w.heap.size <= w2.heap.size from by have := HB0.out.size; have := HOA.out.size; have := HOB.out.size; omega)
 obtain ⟨A, c, rfl, hlc, hcm, _⟩ := zan HOWN.out
 have n3 : w3.cell? ⟨b', 3, none⟩ = some (.slice none 0 0) := zab HND.out 3 rfl
 have n4 : w3.cell? ⟨b', 4, none⟩ = some (.slice A es.length c) := zab HND.out 4 rfl
 have t1 : IntKind.i64.wrap (0 + (es.length : Int)) = (es.length : Int) := by rw [IntKind.wrap_i64]; omega
 have t2 : IntKind.i64.wrap ((es.length : Int)) = (es.length : Int) := by rw [IntKind.wrap_i64]; omega
 have t3 : ((es.length : Int) == 0) = false := by rw [beq_eq_false_iff_ne]; omega
 unfold P
 go_wp2_with fail
 go_quiet (fail)
 obtain ⟨W3, hW3⟩ : ∃ W3, W3 = w3.drewN nq := ⟨_, rfl⟩
 rw [<- hW3]
 have hb33 : Below w3.heap.size w3 W3 := by rw [hW3]; exact zad (Below.refl _ _) nq
 have n3' := za1 n3 hb33
 have n4' := za1 n4 hb33
 have hown3 := zbx HOWN.out hb33
 obtain ⟨gk, cur, rfl, hgk, hcur, _, _, _, _⟩ := zb0 hown3 (by omega)
 have hgkl : gk < w3.heap.size := by
  obtain ⟨g9, _, e9, _, hc9, _⟩ := zb0 HOWN.out (by omega)
  injection e9 with e9
  injection e9 with e9 _
  subst e9
  exact hc9.lt
 have HOWN3 := zaa hown3
 have HB33 := zaa hb33
 clear t1 t2 n3 n4 hW3 hb33 hown3 hcur
 obtain ⟨H, hH⟩ : ∃ H, H = hiS hi := ⟨_, rfl⟩
 rw [<- hH]
 have HH := zaa hH
 clear hH
 go_wp2
 refine wp_loop_rounds 1 ?_
 rw [rounds_succ]
 have hlr3 : LrAt W3 L b G U keys := (HLR2.out.below HB3.out (Blk.lt HLR2.out)).below HB33.out (Nat.lt_of_lt_of_le (Blk.lt HLR2.out) HB3.out.size)
 have l3 := zab hlr3 3 rfl
 have l3f : W3.frozen? ⟨L, 3, none⟩ = false := Blk.frozen hlr3 3
 have t1 : IntKind.i64.wrap (keys + 0) = keys := by rw [IntKind.wrap_i64]; omega
 have t2 : IntKind.i64.wrap keys = keys := by rw [IntKind.wrap_i64]; omega
 have HL3 := zaa hlr3
 clear hlr3
 go_wp2
 go_region
 obtain ⟨WE, hWE⟩ : ∃ WE, WE = (W3.setCell ⟨L, 3, none⟩ (.int .i64 keys)).drew := ⟨_, rfl⟩
 rw [<- hWE]
 have hOE : Only (· = L) W3 WE := by rw [hWE]; exact (Only.set1 _ _ _ _).drew
 have hbl : ¬ b' = L := by have := HO2S.out; omega
 have hb3L : b' < W3.heap.size := Nat.lt_of_lt_of_le (Blk.lt HND.out) HB33.out.size
 have hzE : W3.heap.size <= WE.heap.size := hOE.size
 have hz33 : w3.heap.size <= W3.heap.size := HB33.out.size
 have hz23 : w2.heap.size <= w3.heap.size := HB3.out.size
 have hz02 : w.heap.size <= w2.heap.size := HO2S.out
 have n4e : WE.cell? ⟨b', 4, none⟩ = some (.slice (some ⟨gk, 0, none⟩) es.length c) := (hOE.cell (p := ⟨b', 4, none⟩) hb3L hbl).trans n4'
 have hb2e : Below w2.heap.size w2 W3 := HB3.out.trans (HB33.out.mono hz23)
 have hS0 : LbS w K b g base n cv m bytes cache L U G keys Lu blk gen b' gk c w3.heap.size es 0 1 bs (ins Lu blk) WE := by
  refine ⟨by simp, ?_, ?_, ?_, ?_, rfl, HBS.out, ?_, ?_, ?_, by omega, ?_⟩
  . refine (HD2.out.below hb2e).only hOE (fun x hx e => ?_)
    rcases hx with h | h | h
    . exact HN.out.1 (h.symm.trans e)
    . exact Blk.ne_ HDK.out.blk (show Blk w L _ _ from HLRW.out) (by decide) (h.symm.trans e)
    . exact zag HDK.out.own HLRW.out (by decide) (by rw [<- h, e])
  . show LrAt WE L b G U (keys + 0)
    rw [Int.add_zero, hWE]
    exact (Blk.set_ HL3.out 3 _).drew
  . exact (HU2.out.below hb2e).only hOE (fun e => HN.out.2.2.1 e)
  . intro x
    rw [zm6]
    simp
  . exact za0 (zny HOWN3.out hz02) hOE (fun y cs hy e => Blk.ne_ hy HL3.out (by decide) e)
  . intro j hj hj2
    rw [if_neg (Nat.not_lt_zero _)]
    obtain ⟨s1, s2⟩ := HSTB.out j hj2 hj
    have s3 := Blk.below s2 HB33.out s2.lt
    exact Blk.only s3 hOE (fun e => Blk.ne_ s3 HL3.out (by decide) e)
  . have s3 := Blk.below HND.out HB33.out (Blk.lt HND.out)
    exact Blk.only s3 hOE hbl
  . exact (((((Only.of_below HB0.out).trans (HOA.out.mono fun x _ h => .inr (.inl h))).trans (HOB.out.mono fun x _ h => .inl h)).below hb2e).trans (hOE.mono fun x _ h => .inr (.inr h)))
 have HS0 := zaa hS0
 obtain ⟨HP, hHP⟩ : ∃ HP, HP = w3.heap.size := ⟨_, rfl⟩
 rw [<- hHP] at HS0 hgkl
 have HPP := zaa hHP
 have hhp : w.heap.size <= HP := by rw [hHP]; omega
 have hgkw : w.heap.size <= gk := by omega
 have hbbw : w.heap.size <= b' := by omega
 clear hS0 hOE hb2e hWE l3 l3f t1 t2 n3' n4' hHP
 go_wp2
 go_loopw [14, 149] (fun s14 s149 wr => z2o w K b g base n cv m bytes cache L U G keys Lu lo blk gen b' gk c HP es s14 s149 wr) (fun _ s _ => es.length - (intOf s).toNat)
 case atStart => exact ⟨0, 1, bs, _, Nat.zero_le _, rfl, by rw [zif], HS0.out⟩
 case round =>
  obtain ⟨i, k, bs', Lu', hle, rfl, rfl, s⟩ := hrel
  have n4r := zab s.node 4 rfl
  by_cases hlt : i < es.length
  . have i1 : (i : Int) < (es.length : Int) := by omega
    have i0 : (0 : Int) <= (i : Int) := by omega
    have hib : i < bs'.length := by rw [s.bl]; exact hlt
    have hkid := s.kids i hlt hib
    rw [if_neg (Nat.lt_irrefl _)] at hkid
    obtain ⟨q0, q1, q1f, hgz⟩ := s.row i hlt
    have s0 : wr.cell? ⟨bs'[i], 0, none⟩ = some (.int .i64 (Tr.blk h es[i].2)) := zab hkid 0 rfl
    have s1 : wr.cell? ⟨bs'[i], 1, none⟩ = some (.int .u32 (Tr.gen h es[i].2)) := zab hkid 1 rfl
    obtain ⟨f1, f2, f3, f4⟩ := zf5 HWF.out i hlt
    have hls := zdp lo es i hlt
    have hIH := HIH.out i hlt
    have hnx : zdf hi es i = if h : i + 1 < es.length then some es[i + 1].1 else hi := rfl
    have q2 : ∀ hj : i + 1 < es.length, wr.cell? ⟨gk, (i + 1) * 2, none⟩ = some (.string es[i + 1].1) := fun hj => (s.row (i + 1) hj).1
    have f5 : ∀ hj : i + 1 < es.length, slt es[i].1 es[i + 1].1 = true := fun hj => by
     have := ((zf5 HWF.out (i + 1) hj).2.2.1 (by omega)).1
     rwa [zdp lo es i hlt] at this
    obtain ⟨P1, P2, P3, P4⟩ := s.pre hlt HCA.out hn1 hn2 hG hk0 HNUM.out HKEYS.out HDIS.out HNDP.out
    have hc := hIH (K + k) (za6 m k) _ Lu' ((deep : Int) + 1) wr P1 P2 P3 (by omega) (by omega) P4
    have hcc := HWF.out
    have hhf : ∀ b0, hi = some b0 -> 0 < i -> slt es[i].1 b0 = true := fun b0 hb h0 => (f3 h0).2 b0 hb
    obtain ⟨x, hx⟩ : ∃ x, x = es[i] := ⟨_, rfl⟩
    obtain ⟨bi, hbi⟩ : ∃ bi, bi = bs'[i] := ⟨_, rfl⟩
    simp only [<- hx] at q0 s0 s1 f2 f3 hls hc f5 hhf
    rw [<- hbi] at q1 s0 s1
    obtain ⟨la, hla⟩ : ∃ la, la = zfa lo es i := ⟨_, rfl⟩
    rw [<- hla] at f3 ⊢
    obtain ⟨gd, hgd⟩ : ∃ gd, gd = good (dread bytes cache) h x.2 := ⟨_, rfl⟩
    obtain ⟨kx, hkx⟩ : ∃ kx, kx = x.1 := ⟨_, rfl⟩
    rw [<- hkx] at q0 f2 f3 hls f5 hhf hc
    have w1 : IntKind.i64.wrap ((deep : Int) + 1) = (deep : Int) + 1 := by rw [IntKind.wrap_i64]; omega
    have bself : ∀ a : Str, Op.bytesLess a.toList a.toList = false := fun a => zbh a
    have bs1 := bself kx
    have hmx := fun W => zx1 kx #[9, 9] _ 9 rfl W
    have hto : ∃ tk : Str, tk = hiS (zdf hi es i) /\ (∀ hj : i + 1 < es.length, tk = es[i + 1].1 /\ ¬ tk.toList = [] /\ tk.toList.isEmpty = false) /\ (¬ i + 1 < es.length -> tk = H) := by
     refine ⟨_, rfl, fun hj => ?_, fun hj => ?_⟩
     . rw [hnx, dif_pos hj]
       have hne : ¬ es[i + 1].1.toList = [] := fun e => by
        have h5 := f5 hj
        have : es[i + 1].1 = ByteArray.empty := zh1 (by rw [e, zcs]; rfl)
        rw [this, zav] at h5
        cases h5
       refine ⟨rfl, hne, ?_⟩
       show es[i + 1].1.toList.isEmpty = false
       cases hl : es[i + 1].1.toList with
       | nil => exact absurd hl hne
       | cons _ _ => rfl
     . rw [hnx, dif_neg hj, HH.out]
    obtain ⟨tk, hto1, hto2, hto3⟩ := hto
    rw [<- hto1] at hc
    have hh : H.toList = [] \/ (¬ H.toList = [] /\ H.toList.isEmpty = false /\ (0 < i -> Op.bytesLess kx.toList H.toList = true)) := by
     have hH := HH.out
     cases hi with
     | none => left; rw [hH]; show ByteArray.toList ⟨#[]⟩ = []; rw [zcs]
     | some b1 =>
       right
       have hne : ¬ H.toList = [] := fun e => HHI.out b1 rfl (by have : H = b1 := hH; rw [<- this]; exact zh1 (by rw [e, zcs]; rfl))
       refine ⟨hne, by cases hl : H.toList with | nil => exact absurd hl hne | cons _ _ => rfl, fun h0 => ?_⟩
       rw [show H = b1 from hH]
       exact hhf b1 rfl h0
    have HC := zaa hc
    have HS := zaa s
    have HLS := zaa hls
    have HX := zaa (And.intro hx (And.intro hbi (And.intro hkx hgd)))
    have HTO1 := zaa hto1
    have HF2 := zaa f2
    have HF3 := zaa f3
    have HQ2 := zaa q2
    have HTO2 := zaa hto2
    have HTO3 := zaa hto3
    have HHH := zaa hh
    have HKID := zaa hkid
    clear hc s hls hx hbi hkx hgd hto1 f1 f2 f3 f4 f5 q2 hto2 hto3 hh hkid hIH hnx hhf hla P1 P2 P3 P4 hcc bself
    have hgd' := HX.out.2.2.2
    have HGD := zaa (show good (dread bytes cache) h x.2 = gd from hgd'.symm)
    clear hgd'
    have HXX := zaa HX.out.1
    by_cases hj : i + 1 < es.length
    obtain ⟨j1, j2, j3⟩ := HTO2.out hj
    have q2 := HQ2.out hj
    rw [<- j1] at q2
    have j4 : (i : Int) + 1 < (es.length : Int) := by omega
    have j5 : (0 : Int) <= (i : Int) + 1 := by omega
    clear j1
    rotate_left
    have j4 : ¬ (i : Int) + 1 < (es.length : Int) := by omega
    have j1 := HTO3.out hj
    subst j1
    rotate_left
    all_goals by_cases hz : i = 0
    iterate 2
     have e0 : ((i : Int) == 0) = true := by rw [hz]; rfl
     have hlk := HF2.out hz
     subst hlk
     clear hz
     rotate_left
     have e0 : ((i : Int) == 0) = false := by rw [beq_eq_false_iff_ne]; omega
     obtain ⟨g1, _⟩ := HF3.out (by omega)
     have u1 : Op.bytesLess kx.toList la.toList = false := zbt g1
     have u2 : (kx.toList == la.toList) = false := ze3 (zfz g1).symm
     have u3 : ¬ kx.toList = la.toList := by intro e; rw [e] at u2; simp at u2
     have u4 := HHH.out
     clear g1
     rcases u4 with hh | ⟨hh1, hh2, hh3⟩
     rotate_left
     have hh4 := hh3 (by omega)
     clear hh3
     rotate_left
    all_goals
     cases gd with
     | false =>
       have HG := zaa HGD.out
       have HGG := zaa (show good (dread bytes cache) h es[i].2 = false from by have := HGD.out; rwa [HXX.out] at this)
       go_wp2_with (go_at_call 144; go_loud (refine (zz1 HG.out HC.out).mono ?_; rintro e w4 ⟨k2, rfl, hk2, hd4, ho4⟩; have HSTEP := zaa (And.intro hk2 (And.intro hd4 ho4)); clear hk2 hd4 ho4))
       go_ret2
       obtain ⟨hk2, hd4, ho4⟩ := HSTEP.out
       have hall : (es.all fun e => good (dread bytes cache) h e.2) = false := z1l hlt HGG.out
       have hsm : ((es.take i).map fun e => nodes h e.2).sum + nodes h es[i].2 <= (es.map fun e => nodes h e.2).sum := zql (fun e => nodes h e.2) es i hlt
       refine ⟨k + k2, .pointer none, by have := HS.out.kle; have h9 := hk2; rw [HXX.out] at h9; omega, by rw [hall]; rfl, by rw [zjc, <- Nat.add_assoc]; exact hd4, HS.out.only.trans ho4, fun ht => (by rw [hall] at ht; cases ht), fun _ => rfl⟩
     | true =>
       have HG := zaa HGD.out
       have HGG := zaa (show good (dread bytes cache) h es[i].2 = true from by have := HGD.out; rwa [HXX.out] at this)
       go_wp2_with (go_at_call 144; go_loud (refine (zqm HG.out HC.out).mono ?_; rintro e w4 ⟨k2, b4, Lu4, rfl, hk2, hd4, ho4, hf4, hl4, hu4, hm4⟩; obtain ⟨q1', qf'⟩ := HS.out.row4 ho4 i hlt; rw [HXX.out] at hf4 hl4 hk2; simp only [HXX.out] at hm4; have HSTEP := zaa (fun hgt => HS.out.step hlt hgkl hgkw hk2 hd4 ho4 hgt hf4 hl4 hu4 hm4); clear hk2 hd4 ho4 hf4 hl4 hu4 hm4))
       go_roundw
       case rel => exact ⟨i + 1, _, _, _, by omega, by go_num, by rw [HLS.out], HSTEP.out HGG.out⟩
       case measure => simp [intOf]; omega
  . obtain rfl : i = es.length := by omega
    have kk : ¬ (es.length : Int) < (es.length : Int) := by omega
    have HS := zaa s
    clear s
    go_wp2
    go_ret2
    have hall := HS.out.all_
    have hkle := HS.out.kle
    rw [List.take_length] at hall hkle
    refine ⟨k, P b', hkle, by rw [hall]; rfl, HS.out.disk, HS.out.only, fun _ => ⟨b', gk, c, HP, bs', Lu', rfl, hbbw, hgkw, hhp, hcm, HS.out⟩, fun ht => by rw [hall] at ht; cases ht⟩
end Go.Proofs.YtemondlgcmpbbaaGreatDoor
