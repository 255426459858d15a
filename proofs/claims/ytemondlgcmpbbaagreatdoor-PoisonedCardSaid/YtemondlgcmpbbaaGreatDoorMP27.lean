/- Walks: Disk.Commit, where the device tells no error. -/
import Derived.Test.YtemondlgcmpbbaaGreatDoorMP26
namespace Go.Proofs.YtemondlgcmpbbaaGreatDoor
open Go.RowKit
set_option maxRecDepth 100000
set_option maxHeartbeats 6400000 in
theorem zzz (K b g base n : Nat) (cv : Value) (m : Nums) (bytes : List UInt8) (cache : List (Nat × List UInt8)) (dk : Nat) (hd : Hd) (T : Tree) (q0 : Option Addr) (ds : List Nat) (A : Option Addr) (c : Nat) (R : List (Tree × Value × List Nat)) (w : World) (h : zie w K b g base n cv m bytes cache dk hd T (.pointer q0) ds A c R)
   (s : Nat -> NdS) (hs : ∀ j (hj : j < ds.length), zb3 w ds[j] (s j)) (hsd : ∀ j, j < ds.length -> (s j).dirty = true) (sl gn : Nat) (hsl : sl = 1 - hd.slot) (hgn : gn = hd.gen + 1) (T1 : Tree) (hT1 : T1 = T.lay gn true ((fr (zb2 R T) n 2).take ds.length))
   (W1 : World) (hW1 : W1 = (w.alloc (.cells #[.pointer q0, .int .i64 T.keys] 88)).alloc (.cells #[.nilIface] 31))
   (u1 u3 u5 u7 u8 u9 u10 u11 u12 u13 u14 u15 u16 u17 u18 u19 u20 u21 u22 u23 u24 u25 u26 u27 u28 u29 u30 u31 u32 u33 u34 u35 u36 u37 u38 u39 u40 u41 u42 u43 u44 u45 u46 u47 u48 u49 u50 u51 u52 u53 u54 u55 u56 u57 u58 u59 u60 u61 u62 u63 u64 u65 u66 u67 u68 u69 u70 u71 u72 u73 u74 u75 u76 u77 u78 u79 u80 u81 u82 u83 u84 u85 u86 u87 u88 u89 u90 u91 u92 u93 u94 u95 u96 u97 u98 u99 u100 u101 u102 u103 u104 u105 u106 u107 u108 u109 u110 u111 u112 u113 u114 u115 u116 u117 u118 u119 u120 u121 u122 u123 u124 u125 u126 u127 u128 u129 u130 u131 u132 u133 u134 u135 u136 u137 u138 u139 : Value) :
   Code.wp Tryz.prog (zld 1) (bodyPostD Tryz.prog Tryz.f60 (ComEnd (dfp b g cv) w.heap.size K ds.length b g base n m bytes cache (zao T1) dk hd ds (fun j => (s j).at_ ((fr (zb2 R T) n 2).getD j 0) gn) sl gn T1.rblk T1.rgen w)) ⟨#[.pointer (some ⟨dk, 0, none⟩), u1, .slice A R.length c, u3, .pointer (some ⟨w.heap.size, 0, none⟩), u5, .pointer (some ⟨w.heap.size + 1, 0, none⟩), u7, u8, u9, u10, u11, u12, u13, u14, u15, u16, u17, u18, u19, u20, u21, u22, u23, u24, u25, u26, u27, u28, u29, u30, u31, u32, u33, u34, u35, u36, u37, u38, u39, u40, u41, u42, u43, u44, u45, u46, u47, u48, u49, u50, u51, u52, u53, u54, u55, u56, u57, u58, u59, u60, u61, u62, u63, u64, u65, u66, u67, u68, u69, u70, u71, u72, u73, u74, u75, u76, u77, u78, u79, u80, u81, u82, u83, u84, u85, u86, u87, u88, u89, u90, u91, u92, u93, u94, u95, u96, u97, u98, u99, u100, u101, u102, u103, u104, u105, u106, u107, u108, u109, u110, u111, u112, u113, u114, u115, u116, u117, u118, u119, u120, u121, u122, u123, u124, u125, u126, u127, u128, u129, u130, u131, u132, u133, u134, u135, u136, u137, u138, u139], []⟩ W1 := by
 have hmm := @run_makeMap Tryz.prog
 have hz : W1.heap.size = w.heap.size + 1 + 1 := by rw [hW1, World.size_alloc, World.size_alloc]
 have c1 : W1.cell? ⟨dk, 1, none⟩ = some (.int .i64 hd.slot) := by rw [hW1]; exact zai _ (zai _ (zab h.dkb 1 rfl))
 have c2 : W1.cell? ⟨dk, 2, none⟩ = some (.int .u32 hd.gen) := by rw [hW1]; exact zai _ (zai _ (zab h.dkb 2 rfl))
 have k1 := fun o => zai o c1
 have k2 := fun o => zai o c2
 have q1 : IntKind.i64.wrap (1 - (hd.slot : Int)) = (sl : Int) := by rw [IntKind.wrap_i64]; have := h.slot; omega
 have q2 : IntKind.u32.wrap ((hd.gen : Int) + 1) = (gn : Int) := by rw [IntKind.wrap_u32]; have := h.gen; omega
 have hdkl := h.dkb.lt
 have hne2 : ¬ dk = W1.heap.size := by omega
 have hne3 : ¬ W1.heap.size = dk := by omega
 have hsl2 : sl < 2 := by have := h.slot; omega
 have hgn2 : gn < 4294967296 := by have := h.gen; omega
 have SET := zaa (zv9 w (.pointer q0) T.keys sl gn)
 have HS := zaa hs
 have HSD := zaa hsd
 have HT1 := zaa hT1
 have H0 := zaa h
 have HZ := zaa hz
 have HW1 := zaa hW1
 clear h hsl hgn hs hsd hT1 hz hW1
 conv => arg 2; whnf
 go_wp2_with fail
 go_region
 go_upto_region 3 with fail
 go_cut [9] from 9 to 9 (fun s9 wx => s9 = .pointer (some ⟨w.heap.size + 1 + 1 + 1 + 1 + 1, 0, none⟩) /\ wx = zm7 w (.pointer q0) T.keys sl gn)
 case first =>
  go_wp2
  go_meet
  rw [HZ.out, HW1.out]
  exact ⟨rfl, rfl⟩
 case rest =>
  obtain ⟨rfl, rfl⟩ := hcut
  rename_i hK
  rw [HZ.out]
  obtain ⟨hb0, hx0, hu0, hd0⟩ := SET.out
  exact hK _ _ (zzy K b g base n cv m bytes cache dk hd T q0 ds A c R w H0.out sl gn _ hu0 hx0 hd0 hb0 s HS.out HSD.out hsl2 hgn2 T1 HT1.out _ _ _ _ _ _ _ _ _ _ _ _ _ _ _ _ _ _ _ _ _ _ _ _ _ _ _ _ _ _ _ _ _ _ _ _ _ _ _ _ _ _ _ _ _ _ _ _ _ _ _ _ _ _ _ _ _ _ _ _ _ _ _ _ _ _ _ _ _ _ _ _ _ _ _ _ _ _ _ _ _ _ _ _ _ _ _ _ _ _ _ _ _ _ _ _ _ _ _ _ _ _ _ _ _ _ _ _ _ _ _ _ _ _ _ _ _ _ _ _ _ _ _ _ _ _ _ _ _ _ _ _ _)
end Go.Proofs.YtemondlgcmpbbaaGreatDoor
