/- Kg Kl: merged. -/
import Derived.Test.YtemondlgcmpbbaaGreatDoorMC38
/- Walks: Disk.Commit: the tree that is laid is walked. -/
namespace Go.Proofs.YtemondlgcmpbbaaGreatDoor
open Go.RowKit

def LA (R : List (Tree × Value × List Nat)) (k : Nat) : List Nat := ((R.take k).flatMap fun r => r.1.blks).foldl ins []
theorem LA_step {R : List (Tree × Value × List Nat)} {k : Nat} (h : k < R.length) : LA R (k + 1) = (R[k].1.blks).foldl ins (LA R k) := by
  unfold LA
  rw [take_snoc h, List.flatMap_append, List.foldl_append]
  simp
set_option maxRecDepth 100000 in
set_option maxHeartbeats 6400000 in
theorem commit5 (K b g base n : Nat) (cv : Value) (m : Nums) (bytes : List UInt8) (cache : List (Nat × List UInt8)) (dk : Nat) (hd : Hd) (T : Tree) (q0 : Option Addr) (ds : List Nat) (A : Option Addr) (c : Nat) (R : List (Tree × Value × List Nat)) (w : World) (h : ComIn w K b g base n cv m bytes cache dk hd T (.pointer q0) ds A c R)
    (sl gn : Nat) (W : World) (hu : UsedJ w.heap.size (w.heap.size + 1 + 1 + 1 + 1) (w.heap.size + 1 + 1 + 1) (LA R R.length) W) (hx : ComX w.heap.size (.pointer q0) T.keys #[.int .i64 sl, .int .u32 gn, .int .i64 0, .int .u32 0] W) (hq : Blk W (w.heap.size + 1 + 1 + 1 + 1 + 1) 156 #[.slice none 0 0]) (hb : Below w.heap.size w W) (s : Nat → NdS) (hs : ∀ j (hj : j < ds.length), NdAt w ds[j] (s j)) (hsd : ∀ j, j < ds.length → (s j).dirty = true) (hsl : sl < 2) (hgn : gn < 4294967296) (T1 : Tree) (hT1 : T1 = T.lay gn true ((fr (usedL R T) n 2).take ds.length))
    (u1 u2 u3 u5 u10 u11 u12 u13 u14 u15 u16 u17 u18 u19 u20 u21 u22 u23 u24 u25 u26 u27 u28 u29 u30 u31 u32 u33 u34 u35 u36 u37 u38 u39 u40 u41 u42 u43 u44 u45 u46 u47 u48 u49 u50 u51 u52 u53 u54 u55 u56 u57 u58 u59 u60 u61 u62 u63 u64 u65 u66 u67 u68 u69 u70 u71 u72 u73 u74 u75 u76 u77 u78 u79 u80 u81 u82 u83 u84 u85 u86 u87 u88 u89 u90 u91 u92 u93 u94 u95 u96 u97 u98 u99 u100 u101 u102 u103 u104 u105 u106 u107 u108 u109 u110 u111 u112 u113 u114 u115 u116 u117 u118 u119 u120 u121 u122 u123 u124 u125 u126 u127 u128 u129 u130 u131 u132 u133 u134 u135 u136 u137 u138 u139 : Value) :
    Code.wp Tryz.prog (comT 5) (bodyPostD Tryz.prog Tryz.f60 (ComEnd (dfp b g cv) w.heap.size (K + ds.length) b g base n (wrotes m ds.length) bytes (cache ++ wlist T1) dk ds (fun j => (s j).at_ ((fr (usedL R T) n 2).getD j 0) gn) sl gn T1.rblk T1.rgen w)) ⟨#[.pointer (some ⟨dk, 0, none⟩), u1, u2, u3, .pointer (some ⟨w.heap.size, 0, none⟩), u5, .pointer (some ⟨w.heap.size + 1, 0, none⟩), .pointer (some ⟨w.heap.size + 1 + 1, 0, none⟩), .pointer (some ⟨w.heap.size + 1 + 1 + 1 + 1, 0, none⟩), .pointer (some ⟨w.heap.size + 1 + 1 + 1 + 1 + 1, 0, none⟩), u10, u11, u12, u13, u14, u15, u16, u17, u18, u19, u20, u21, u22, u23, u24, u25, u26, u27, u28, u29, u30, u31, u32, u33, u34, u35, u36, u37, u38, u39, u40, u41, u42, u43, u44, u45, u46, u47, u48, u49, u50, u51, u52, u53, u54, u55, u56, u57, u58, u59, u60, u61, u62, u63, u64, u65, u66, u67, u68, u69, u70, u71, u72, u73, u74, u75, u76, u77, u78, u79, u80, u81, u82, u83, u84, u85, u86, u87, u88, u89, u90, u91, u92, u93, u94, u95, u96, u97, u98, u99, u100, u101, u102, u103, u104, u105, u106, u107, u108, u109, u110, u111, u112, u113, u114, u115, u116, u117, u118, u119, u120, u121, u122, u123, u124, u125, u126, u127, u128, u129, u130, u131, u132, u133, u134, u135, u136, u137, u138, u139], []⟩ W := by
  have hmf : ∀ (fn : Fn) (first cap : Array Value) (w : World), (Instr.makeFunc fn first cap).run Tryz.prog w = .ok (.func fn first cap) w := fun _ _ _ _ => rfl
  have hds : ds.length ≤ 1000 := by
    have h1 := h.room
    have h2 : (fr (usedL R T) n 2).length ≤ n := by
      unfold fr
      refine Nat.le_trans (List.length_filter_le _ _) ?_
      rw [List.length_range']; omega
    have := h.size.2
    omega
  have hvb := h.tree.below hb (ok' := fun z => z < w.heap.size) (fun _ h => h)
  have x0 : W.cell? ⟨w.heap.size, 0, none⟩ = some (.pointer q0) := cellOf hx.t4 0 rfl
  have x1 : W.cell? ⟨w.heap.size, 1, none⟩ = some (.int .i64 T.keys) := cellOf hx.t4 1 rfl
  have WK := hide (tWalkB (M := 1000) (J := fun L D W => BothJ w.heap.size (w.heap.size + 1 + 1 + 1 + 1 + 1) (w.heap.size + 1 + 1 + 1 + 1) (w.heap.size + 1 + 1 + 1) L D W ∧ ComX w.heap.size (.pointer q0) T.keys #[.int .i64 sl, .int .u32 gn, .int .i64 0, .int .u32 0] W)
    (fun L D W W' h hb => ⟨h.1.below hb, h.2.keep fun y T cs hy _ _ => hy.below hb hy.lt⟩)
    (fun L D b blk gen dirty pv kv W hJ hn hb hn0 hM => by
      cases dirty with
      | false => exact commit2_clean (X := fun W => ComX w.heap.size (.pointer q0) T.keys #[.int .i64 sl, .int .u32 gn, .int .i64 0, .int .u32 0] W) (fun W W' hx hk => hx.keep hk) _ _ _ _ L D b blk gen pv kv W hJ hn hb hn0
      | true => exact commit2_dirty (X := fun W => ComX w.heap.size (.pointer q0) T.keys #[.int .i64 sl, .int .u32 gn, .int .i64 0, .int .u32 0] W) (fun W W' hx hk => hx.keep hk) _ _ _ _ L D b blk gen pv kv W hJ hn hb hn0 (by simp only [List.length_append] at hM; omega))
    T (.pointer q0) T.keys ds (LA R R.length) [] W hvb ⟨⟨hu, ⟨_, hq, ⟨rfl, .inl ⟨rfl, rfl⟩⟩⟩, by omega⟩, hx⟩ hb.size (by simpa [vdB] using hds))
  have HB := hide hb
  have H0 := hide h
  have hus : T.cblks.foldl ins (LA R R.length) = usedL R T := by unfold LA usedL; rw [List.take_length]
  rw [hus] at WK
  have HDS := hide hds
  have HS := hide hs
  have HSD := hide hsd
  have HT1 := hide hT1
  clear hu hx hq hb hvb h hus hds hs hsd hT1
  conv => arg 2; whnf
  go_upto_region 11 with (go_at_call 87; go_loud (refine WK.out.mono ?_; rintro e w3 ⟨rfl, hj3, hb3⟩))
  go_cut [12] from 12 to 12 (fun s12 wx => s12 = .int .i64 2 ∧ wx = w3)
  case first =>
    go_wp2
    go_meet
    exact ⟨rfl, rfl⟩
  case rest =>
    obtain ⟨rfl, rfl⟩ := hcut
    rename_i hK
    have hbw := HB.out.trans hb3
    obtain ⟨⟨hu3, ⟨v, hv, hown⟩, hl3⟩, hx3⟩ := hj3
    have e0 : [] ++ vdB ds = ds := rfl
    rw [e0] at hown
    have hin := H0.out
    have hlow : ∀ y ∈ ds, y < w.heap.size := fun y hy => (hin.tree.ds y hy).1
    have hmid : ComMid wc w.heap.size K b g base n cv m bytes cache dk hd ds s :=
      ⟨hin.disk.below hbw, hin.calm, hin.dkb.below hbw hin.dkb.lt, hx3.e6, ⟨v, hv, hown⟩, fun j hj => Blk.below (HS.out j hj) hbw (Blk.lt (HS.out j hj)), hin.nd, hlow, hin.dkb.lt, HDS.out, by have := hin.size.1; omega, by have := hin.num; omega, by have := hv.lt; omega⟩
    exact hK _ _ (commit8 (dfp b g cv) w.heap.size K b g base n cv m bytes cache dk hd ds s T (usedL R T) sl gn q0 T.keys w wc (fun x h => .inl h) (Only.of_below hbw) ⟨hmid, hu3, hin.tree.below hbw (fun _ h => h), HSD.out, fun h n hr => (hin.fit h n hr).mono fun _ _ h => h, hin.small, hin.size.2, hin.room, by have := hin.num; omega, by have := hin.cache_; have := HDS.out; omega⟩ hx3.t4 hx3.h7 hsl hgn T1 HT1.out _ _ _ _ _ _ _ _ _ _ _ _ _ _ _ _ _ _ _ _ _ _ _ _ _ _ _ _ _ _ _ _ _ _ _ _ _ _ _ _ _ _ _ _ _ _ _ _ _ _ _ _ _ _ _ _ _ _ _ _ _ _ _ _ _ _ _ _ _ _ _ _ _ _ _ _ _ _ _ _ _ _ _ _ _ _ _ _ _ _ _ _ _ _ _ _ _ _ _ _ _ _ _ _ _ _ _ _ _ _ _ _ _ _ _ _ _ _ _ _ _ _ _ _ _ _ _ _ _ _ _ _ _)
end Go.Proofs.YtemondlgcmpbbaaGreatDoor

/- Walks: Disk.Commit: the trees that are read are walked. -/
namespace Go.Proofs.YtemondlgcmpbbaaGreatDoor
open Go.RowKit

/-- Loop 1: the trees that are read. -/
def C1Rel (w : World) (H qd qu u : Nat) (rp : Value) (keys : Int) (h' : Array Value) (R : List (Tree × Value × List Nat)) (s : Value) (wr : World) : Prop :=
  ∃ k : Nat, k ≤ R.length ∧ s = .int .i64 k ∧ (UsedJ H qu u (LA R k) wr ∧ (ComX H rp keys h' wr ∧ Blk wr qd 156 #[.slice none 0 0])) ∧ Below H w wr

set_option maxRecDepth 100000 in
set_option maxHeartbeats 6400000 in
theorem commit4 (K b g base n : Nat) (cv : Value) (m : Nums) (bytes : List UInt8) (cache : List (Nat × List UInt8)) (dk : Nat) (hd : Hd) (T : Tree) (q0 : Option Addr) (ds : List Nat) (A : Option Addr) (c : Nat) (R : List (Tree × Value × List Nat)) (w : World) (h : ComIn w K b g base n cv m bytes cache dk hd T (.pointer q0) ds A c R)
    (sl gn : Nat) (W0 : World) (hu0 : UsedJ w.heap.size (w.heap.size + 1 + 1 + 1 + 1) (w.heap.size + 1 + 1 + 1) [] W0) (hx0 : ComX w.heap.size (.pointer q0) T.keys #[.int .i64 sl, .int .u32 gn, .int .i64 0, .int .u32 0] W0) (hd0 : Blk W0 (w.heap.size + 1 + 1 + 1 + 1 + 1) 156 #[.slice none 0 0]) (hb0 : Below w.heap.size w W0)
    (s : Nat → NdS) (hs : ∀ j (hj : j < ds.length), NdAt w ds[j] (s j)) (hsd : ∀ j, j < ds.length → (s j).dirty = true) (hsl2 : sl < 2) (hgn2 : gn < 4294967296) (T1 : Tree) (hT1 : T1 = T.lay gn true ((fr (usedL R T) n 2).take ds.length))
    (u1 u3 u5 u10 u11 u12 u13 u14 u15 u16 u17 u18 u19 u20 u21 u22 u23 u24 u25 u26 u27 u28 u29 u30 u31 u32 u33 u34 u35 u36 u37 u38 u39 u40 u41 u42 u43 u44 u45 u46 u47 u48 u49 u50 u51 u52 u53 u54 u55 u56 u57 u58 u59 u60 u61 u62 u63 u64 u65 u66 u67 u68 u69 u70 u71 u72 u73 u74 u75 u76 u77 u78 u79 u80 u81 u82 u83 u84 u85 u86 u87 u88 u89 u90 u91 u92 u93 u94 u95 u96 u97 u98 u99 u100 u101 u102 u103 u104 u105 u106 u107 u108 u109 u110 u111 u112 u113 u114 u115 u116 u117 u118 u119 u120 u121 u122 u123 u124 u125 u126 u127 u128 u129 u130 u131 u132 u133 u134 u135 u136 u137 u138 u139 : Value) :
    Code.wp Tryz.prog (comT 4) (bodyPostD Tryz.prog Tryz.f60 (ComEnd (dfp b g cv) w.heap.size (K + ds.length) b g base n (wrotes m ds.length) bytes (cache ++ wlist T1) dk ds (fun j => (s j).at_ ((fr (usedL R T) n 2).getD j 0) gn) sl gn T1.rblk T1.rgen w)) ⟨#[.pointer (some ⟨dk, 0, none⟩), u1, .slice A R.length c, u3, .pointer (some ⟨w.heap.size, 0, none⟩), u5, .pointer (some ⟨w.heap.size + 1, 0, none⟩), .pointer (some ⟨w.heap.size + 1 + 1, 0, none⟩), .pointer (some ⟨w.heap.size + 1 + 1 + 1 + 1, 0, none⟩), .pointer (some ⟨w.heap.size + 1 + 1 + 1 + 1 + 1, 0, none⟩), u10, u11, u12, u13, u14, u15, u16, u17, u18, u19, u20, u21, u22, u23, u24, u25, u26, u27, u28, u29, u30, u31, u32, u33, u34, u35, u36, u37, u38, u39, u40, u41, u42, u43, u44, u45, u46, u47, u48, u49, u50, u51, u52, u53, u54, u55, u56, u57, u58, u59, u60, u61, u62, u63, u64, u65, u66, u67, u68, u69, u70, u71, u72, u73, u74, u75, u76, u77, u78, u79, u80, u81, u82, u83, u84, u85, u86, u87, u88, u89, u90, u91, u92, u93, u94, u95, u96, u97, u98, u99, u100, u101, u102, u103, u104, u105, u106, u107, u108, u109, u110, u111, u112, u113, u114, u115, u116, u117, u118, u119, u120, u121, u122, u123, u124, u125, u126, u127, u128, u129, u130, u131, u132, u133, u134, u135, u136, u137, u138, u139], []⟩ W0 := by
  have hmf : ∀ (fn : Fn) (first cap : Array Value) (w : World), (Instr.makeFunc fn first cap).run Tryz.prog w = .ok (.func fn first cap) w := fun _ _ _ _ => rfl
  have hR10 : R.length ≤ 10 := h.few.1
  have hRc : R.length ≤ c := h.few.2.1
  have hc1000 : c ≤ 1000 := h.few.2.2
  have HB0 := hide hb0
  have HX0 := hide hx0
  have HU0 := hide hu0
  have HD0 := hide hd0
  have HS := hide hs
  have HSD := hide hsd
  have HT1 := hide hT1
  have H0 := hide h
  clear h hu0 hx0 hd0 hb0 hs hsd hT1
  conv => arg 2; whnf
  go_upto_block 0 with fail
  go_cut [11] from 33 to 40 (fun s11 wx => (UsedJ w.heap.size (w.heap.size + 1 + 1 + 1 + 1) (w.heap.size + 1 + 1 + 1) (LA R R.length) wx ∧ (ComX w.heap.size (.pointer q0) T.keys #[.int .i64 sl, .int .u32 gn, .int .i64 0, .int .u32 0] wx ∧ Blk wx (w.heap.size + 1 + 1 + 1 + 1 + 1) 156 #[.slice none 0 0])) ∧ Below w.heap.size w wx)
  case first =>
    go_wp2_with fail
    go_loopw [33] (fun s wr => C1Rel w w.heap.size (w.heap.size + 1 + 1 + 1 + 1 + 1) (w.heap.size + 1 + 1 + 1 + 1) (w.heap.size + 1 + 1 + 1) (.pointer q0) T.keys #[.int .i64 sl, .int .u32 gn, .int .i64 0, .int .u32 0] R s wr) (fun s _ => R.length - (intOf s).toNat)
    case atStart => exact ⟨0, Nat.zero_le _, rfl, ⟨HU0.out, HX0.out, HD0.out⟩, HB0.out⟩
    case round =>
      obtain ⟨k, hk, rfl, hj, hb⟩ := hrel
      by_cases hlt : k < R.length
      · obtain ⟨gr, o, hA, hgr, r1, r2, htv⟩ := H0.out.rds k hlt
        obtain ⟨qk, hqk⟩ := htv.ptr
        rw [hqk] at r1 htv
        subst hA
        have e1 : wr.cell? ⟨gr, o + k * 2, none⟩ = some (.pointer qk) := (hb.cell (p := ⟨gr, o + k * 2, none⟩) hgr).trans r1
        have e2 : wr.cell? ⟨gr, o + k * 2 + 1, none⟩ = some (.int .i64 R[k].1.keys) := (hb.cell (p := ⟨gr, o + k * 2 + 1, none⟩) hgr).trans r2
        have hal : Below wr.heap.size wr (wr.alloc (.cells #[.pointer qk, .int .i64 R[k].1.keys] 88)) := (Below.refl _ _).alloc (Nat.le_refl _) _
        have hv1 : TreeV (fun z => z < w.heap.size) (wr.alloc (.cells #[.pointer qk, .int .i64 R[k].1.keys] 88)) R[k].1 (.pointer qk) R[k].2.2 := (htv.below hb (fun _ h => h)).below hal (fun _ h => h)
        have hj1 : UsedJ w.heap.size (w.heap.size + 1 + 1 + 1 + 1) (w.heap.size + 1 + 1 + 1) (LA R k) (wr.alloc (.cells #[.pointer qk, .int .i64 R[k].1.keys] 88)) ∧ (ComX w.heap.size (.pointer q0) T.keys #[.int .i64 sl, .int .u32 gn, .int .i64 0, .int .u32 0] (wr.alloc (.cells #[.pointer qk, .int .i64 R[k].1.keys] 88)) ∧ Blk (wr.alloc (.cells #[.pointer qk, .int .i64 R[k].1.keys] 88)) (w.heap.size + 1 + 1 + 1 + 1 + 1) 156 #[.slice none 0 0]) :=
          ⟨hj.1.below hal, hj.2.1.keep (fun y T cs hy _ _ => hy.alloc _), hj.2.2.alloc _⟩
        have WK := hide (tWalkA (M := 0) (J := fun L _ W => UsedJ w.heap.size (w.heap.size + 1 + 1 + 1 + 1) (w.heap.size + 1 + 1 + 1) L W ∧ (ComX w.heap.size (.pointer q0) T.keys #[.int .i64 sl, .int .u32 gn, .int .i64 0, .int .u32 0] W ∧ Blk W (w.heap.size + 1 + 1 + 1 + 1 + 1) 156 #[.slice none 0 0]))
          (fun L D W W' h hb => ⟨h.1.below hb, h.2.1.keep (fun y T cs hy _ _ => hy.below hb hy.lt), h.2.2.below hb h.2.2.lt⟩)
          (fun L D b blk gen dirty pv kv W hJ hn hb hn0 _ => commit1_any (X := fun W => ComX w.heap.size (.pointer q0) T.keys #[.int .i64 sl, .int .u32 gn, .int .i64 0, .int .u32 0] W ∧ Blk W (w.heap.size + 1 + 1 + 1 + 1 + 1) 156 #[.slice none 0 0]) (fun W W' hx hk => ⟨hx.1.keep fun y T cs hy _ _ => hk y T cs hy, hk _ _ _ hx.2⟩) _ _ _ L D b blk gen dirty pv kv W hJ hn hb hn0)
          R[k].1 (.pointer qk) R[k].1.keys R[k].2.2 (LA R k) [] _ hv1 hj1 (Nat.le_trans hb.size hal.size) (by simp [vdA]))
        rw [← LA_step hlt] at WK
        have k0 : (0 : Int) ≤ (k : Int) := by omega
        have k1 : (k : Int) < (R.length : Int) := by omega
        have HB := hide hb
        have HAL := hide hal
        clear hj hb hv1 hj1 hal htv r1 r2 hqk
        go_wp2_with (go_at_call 87; go_loud (refine WK.out.mono ?_; rintro e w3 ⟨rfl, hj3, hb3⟩))
        go_roundw
        case rel => exact ⟨k + 1, by omega, by go_num, hj3, HB.out.trans (Below.from_alloc hb3 HB.out HB.out.size)⟩
        case measure => simp [intOf]; omega
      · have k1 : ¬ (k : Int) < (R.length : Int) := by omega
        obtain rfl : k = R.length := by omega
        have HJ := hide hj
        have HB := hide hb
        clear hj hb
        go_wp2
        go_meet
        exact ⟨HJ.out, HB.out⟩
  case rest =>
    obtain ⟨⟨hu, hx, hq⟩, hb⟩ := hcut
    rename_i hK
    exact hK _ _ (commit5 K b g base n cv m bytes cache dk hd T q0 ds A c R w H0.out sl gn wc hu hx hq hb s HS.out HSD.out hsl2 hgn2 T1 HT1.out _ _ _ _ _ _ _ _ _ _ _ _ _ _ _ _ _ _ _ _ _ _ _ _ _ _ _ _ _ _ _ _ _ _ _ _ _ _ _ _ _ _ _ _ _ _ _ _ _ _ _ _ _ _ _ _ _ _ _ _ _ _ _ _ _ _ _ _ _ _ _ _ _ _ _ _ _ _ _ _ _ _ _ _ _ _ _ _ _ _ _ _ _ _ _ _ _ _ _ _ _ _ _ _ _ _ _ _ _ _ _ _ _ _ _ _ _ _ _ _ _ _ _ _ _ _ _ _ _ _ _ _ _ _)
end Go.Proofs.YtemondlgcmpbbaaGreatDoor
