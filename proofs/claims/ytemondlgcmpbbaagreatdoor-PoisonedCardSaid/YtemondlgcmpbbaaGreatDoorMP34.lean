/- Kx TreeG Ky Hf Cg: merged. -/
import Derived.Test.YtemondlgcmpbbaaGreatDoorMP01
import Derived.Test.YtemondlgcmpbbaaGreatDoorMP10
import Derived.Great.BuildSlice
import Derived.RegionTactic
import Derived.BigRegion
import Derived.Laws.IdiomStrings
import Derived.Test.YtemondlgcmpbbaaGreatDoorMP19
import Derived.Test.YtemondlgcmpbbaaGreatDoorMP29
import Derived.Test.YtemondlgcmpbbaaGreatDoorMP33
namespace Go.Proofs.YtemondlgcmpbbaaGreatDoor
open Go.RowKit
set_option maxRecDepth 100000
def zbo (k : Nat) : Str := ⟨(if k % 3 = 0 /\ k % 2 = 1 then #[107, 101, 121, 48, 48, 48] else #[107]) ++ (if k % 5 = 4 then #[UInt8.ofNat (97 + k % 26)] else #[UInt8.ofNat (97 + k % 26), UInt8.ofNat (97 + k / 26 % 26)])⟩
theorem zh3 : ∀ k, k < 20 -> zb1 (zbo k) := by
 intro k hk
 have : k = 0 \/ k = 1 \/ k = 2 \/ k = 3 \/ k = 4 \/ k = 5 \/ k = 6 \/ k = 7 \/ k = 8 \/ k = 9 \/ k = 10 \/ k = 11 \/ k = 12 \/ k = 13 \/ k = 14 \/ k = 15 \/ k = 16 \/ k = 17 \/ k = 18 \/ k = 19 := by omega
 rcases this with rfl | rfl | rfl | rfl | rfl | rfl | rfl | rfl | rfl | rfl | rfl | rfl | rfl | rfl | rfl | rfl | rfl | rfl | rfl | rfl
 all_goals exact ⟨Nat.le_of_ble_eq_true rfl, Nat.le_of_ble_eq_true rfl⟩
theorem zut (b k : Nat) : Addr.add ⟨b, 0, none⟩ k = ⟨b, k, none⟩ := by
 unfold Addr.add
 split
 . rename_i h
   subst h
   rfl
 . show (⟨b, 0 + k, none⟩ : Addr) = _
   rw [Nat.zero_add]
theorem zci (W : World) (g : Nat) (a b : UInt8) (hb : Blk W g 5 #[.int .u8 (a.toNat : Int), .int .u8 (b.toNat : Int)]) : (convert 77 9 (.slice (some ⟨g, 0, none⟩) 2 2)).run Tryz.prog W = .ok (.string ⟨#[a, b]⟩) W := by
 refine run_convert_bytes_back (P := Tryz.prog) _ 77 9 5 ⟨g, 0, none⟩ 2 [a, b] Tryz.underlying77 Tryz.underlying5 Tryz.underlying9 fun j hj => ?_
 rw [zut]
 match j, hj with
 | 0, _ => exact zab hb 0 rfl
 | 1, _ => exact zab hb 1 rfl
theorem z2r (w : World) : Calls Tryz.prog 96 #[.int .i64 0] w fun e w' => e = .returned (.string (zbo 0)) /\ Below w.heap.size w w' := by
 have kc : (convert 77 9 (.slice (some ⟨w.heap.size, 0, none⟩) 2 2)).run Tryz.prog (w.alloc (.cells #[.int .u8 97, .int .u8 97] 5)).drew = .ok (.string ⟨#[97, 97]⟩) (w.alloc (.cells #[.int .u8 97, .int .u8 97] 5)).drew := zci _ _ 97 97 (Blk.new w _ _).drew
 have HB := zaa (show Below w.heap.size w (w.alloc (.cells #[.int .u8 97, .int .u8 97] 5)) from (Below.refl _ _).alloc (Nat.le_refl _) _)
 go_enter Tryz.func96, Tryz.ntmps96
 go_wp2
 go_region
 go_wp2
 go_ret
 exact ⟨by kernel_rfl, HB.out.drew⟩
theorem z2s (w : World) : Calls Tryz.prog 96 #[.int .i64 1] w fun e w' => e = .returned (.string (zbo 1)) /\ Below w.heap.size w w' := by
 have kc : (convert 77 9 (.slice (some ⟨w.heap.size, 0, none⟩) 2 2)).run Tryz.prog (w.alloc (.cells #[.int .u8 98, .int .u8 97] 5)).drew = .ok (.string ⟨#[98, 97]⟩) (w.alloc (.cells #[.int .u8 98, .int .u8 97] 5)).drew := zci _ _ 98 97 (Blk.new w _ _).drew
 have HB := zaa (show Below w.heap.size w (w.alloc (.cells #[.int .u8 98, .int .u8 97] 5)) from (Below.refl _ _).alloc (Nat.le_refl _) _)
 go_enter Tryz.func96, Tryz.ntmps96
 go_wp2
 go_region
 go_wp2
 go_ret
 exact ⟨by kernel_rfl, HB.out.drew⟩
theorem z2t (w : World) : Calls Tryz.prog 96 #[.int .i64 2] w fun e w' => e = .returned (.string (zbo 2)) /\ Below w.heap.size w w' := by
 have kc : (convert 77 9 (.slice (some ⟨w.heap.size, 0, none⟩) 2 2)).run Tryz.prog (w.alloc (.cells #[.int .u8 99, .int .u8 97] 5)).drew = .ok (.string ⟨#[99, 97]⟩) (w.alloc (.cells #[.int .u8 99, .int .u8 97] 5)).drew := zci _ _ 99 97 (Blk.new w _ _).drew
 have HB := zaa (show Below w.heap.size w (w.alloc (.cells #[.int .u8 99, .int .u8 97] 5)) from (Below.refl _ _).alloc (Nat.le_refl _) _)
 go_enter Tryz.func96, Tryz.ntmps96
 go_wp2
 go_region
 go_wp2
 go_ret
 exact ⟨by kernel_rfl, HB.out.drew⟩
theorem z2u (w : World) : Calls Tryz.prog 96 #[.int .i64 3] w fun e w' => e = .returned (.string (zbo 3)) /\ Below w.heap.size w w' := by
 have kc : (convert 77 9 (.slice (some ⟨w.heap.size, 0, none⟩) 2 2)).run Tryz.prog (w.alloc (.cells #[.int .u8 100, .int .u8 97] 5)).drew = .ok (.string ⟨#[100, 97]⟩) (w.alloc (.cells #[.int .u8 100, .int .u8 97] 5)).drew := zci _ _ 100 97 (Blk.new w _ _).drew
 have HB := zaa (show Below w.heap.size w (w.alloc (.cells #[.int .u8 100, .int .u8 97] 5)) from (Below.refl _ _).alloc (Nat.le_refl _) _)
 go_enter Tryz.func96, Tryz.ntmps96
 go_wp2
 go_region
 go_wp2
 go_ret
 exact ⟨by kernel_rfl, HB.out.drew⟩
theorem z2v (w : World) : Calls Tryz.prog 96 #[.int .i64 4] w fun e w' => e = .returned (.string (zbo 4)) /\ Below w.heap.size w w' := by
 have kc : (convert 77 9 (.slice (some ⟨w.heap.size, 0, none⟩) 2 2)).run Tryz.prog (w.alloc (.cells #[.int .u8 101, .int .u8 97] 5)).drew = .ok (.string ⟨#[101, 97]⟩) (w.alloc (.cells #[.int .u8 101, .int .u8 97] 5)).drew := zci _ _ 101 97 (Blk.new w _ _).drew
 have HB := zaa (show Below w.heap.size w (w.alloc (.cells #[.int .u8 101, .int .u8 97] 5)) from (Below.refl _ _).alloc (Nat.le_refl _) _)
 go_enter Tryz.func96, Tryz.ntmps96
 go_wp2
 go_region
 go_wp2
 go_ret
 exact ⟨by kernel_rfl, HB.out.drew⟩
theorem z2w (w : World) : Calls Tryz.prog 96 #[.int .i64 5] w fun e w' => e = .returned (.string (zbo 5)) /\ Below w.heap.size w w' := by
 have kc : (convert 77 9 (.slice (some ⟨w.heap.size, 0, none⟩) 2 2)).run Tryz.prog (w.alloc (.cells #[.int .u8 102, .int .u8 97] 5)).drew = .ok (.string ⟨#[102, 97]⟩) (w.alloc (.cells #[.int .u8 102, .int .u8 97] 5)).drew := zci _ _ 102 97 (Blk.new w _ _).drew
 have HB := zaa (show Below w.heap.size w (w.alloc (.cells #[.int .u8 102, .int .u8 97] 5)) from (Below.refl _ _).alloc (Nat.le_refl _) _)
 go_enter Tryz.func96, Tryz.ntmps96
 go_wp2
 go_region
 go_wp2
 go_ret
 exact ⟨by kernel_rfl, HB.out.drew⟩
theorem z2x (w : World) : Calls Tryz.prog 96 #[.int .i64 6] w fun e w' => e = .returned (.string (zbo 6)) /\ Below w.heap.size w w' := by
 have kc : (convert 77 9 (.slice (some ⟨w.heap.size, 0, none⟩) 2 2)).run Tryz.prog (w.alloc (.cells #[.int .u8 103, .int .u8 97] 5)).drew = .ok (.string ⟨#[103, 97]⟩) (w.alloc (.cells #[.int .u8 103, .int .u8 97] 5)).drew := zci _ _ 103 97 (Blk.new w _ _).drew
 have HB := zaa (show Below w.heap.size w (w.alloc (.cells #[.int .u8 103, .int .u8 97] 5)) from (Below.refl _ _).alloc (Nat.le_refl _) _)
 go_enter Tryz.func96, Tryz.ntmps96
 go_wp2
 go_region
 go_wp2
 go_ret
 exact ⟨by kernel_rfl, HB.out.drew⟩
theorem z2y (w : World) : Calls Tryz.prog 96 #[.int .i64 7] w fun e w' => e = .returned (.string (zbo 7)) /\ Below w.heap.size w w' := by
 have kc : (convert 77 9 (.slice (some ⟨w.heap.size, 0, none⟩) 2 2)).run Tryz.prog (w.alloc (.cells #[.int .u8 104, .int .u8 97] 5)).drew = .ok (.string ⟨#[104, 97]⟩) (w.alloc (.cells #[.int .u8 104, .int .u8 97] 5)).drew := zci _ _ 104 97 (Blk.new w _ _).drew
 have HB := zaa (show Below w.heap.size w (w.alloc (.cells #[.int .u8 104, .int .u8 97] 5)) from (Below.refl _ _).alloc (Nat.le_refl _) _)
 go_enter Tryz.func96, Tryz.ntmps96
 go_wp2
 go_region
 go_wp2
 go_ret
 exact ⟨by kernel_rfl, HB.out.drew⟩
theorem z2z (w : World) : Calls Tryz.prog 96 #[.int .i64 8] w fun e w' => e = .returned (.string (zbo 8)) /\ Below w.heap.size w w' := by
 have kc : (convert 77 9 (.slice (some ⟨w.heap.size, 0, none⟩) 2 2)).run Tryz.prog (w.alloc (.cells #[.int .u8 105, .int .u8 97] 5)).drew = .ok (.string ⟨#[105, 97]⟩) (w.alloc (.cells #[.int .u8 105, .int .u8 97] 5)).drew := zci _ _ 105 97 (Blk.new w _ _).drew
 have HB := zaa (show Below w.heap.size w (w.alloc (.cells #[.int .u8 105, .int .u8 97] 5)) from (Below.refl _ _).alloc (Nat.le_refl _) _)
 go_enter Tryz.func96, Tryz.ntmps96
 go_wp2
 go_region
 go_wp2
 go_ret
 exact ⟨by kernel_rfl, HB.out.drew⟩
theorem z3a (w : World) : Calls Tryz.prog 96 #[.int .i64 9] w fun e w' => e = .returned (.string (zbo 9)) /\ Below w.heap.size w w' := by
 have kc : (convert 77 9 (.slice (some ⟨w.heap.size, 0, none⟩) 2 2)).run Tryz.prog (w.alloc (.cells #[.int .u8 106, .int .u8 97] 5)).drew = .ok (.string ⟨#[106, 97]⟩) (w.alloc (.cells #[.int .u8 106, .int .u8 97] 5)).drew := zci _ _ 106 97 (Blk.new w _ _).drew
 have HB := zaa (show Below w.heap.size w (w.alloc (.cells #[.int .u8 106, .int .u8 97] 5)) from (Below.refl _ _).alloc (Nat.le_refl _) _)
 go_enter Tryz.func96, Tryz.ntmps96
 go_wp2
 go_region
 go_wp2
 go_ret
 exact ⟨by kernel_rfl, HB.out.drew⟩
theorem z1o (w : World) : Calls Tryz.prog 96 #[.int .i64 10] w fun e w' => e = .returned (.string (zbo 10)) /\ Below w.heap.size w w' := by
 have kc : (convert 77 9 (.slice (some ⟨w.heap.size, 0, none⟩) 2 2)).run Tryz.prog (w.alloc (.cells #[.int .u8 107, .int .u8 97] 5)).drew = .ok (.string ⟨#[107, 97]⟩) (w.alloc (.cells #[.int .u8 107, .int .u8 97] 5)).drew := zci _ _ 107 97 (Blk.new w _ _).drew
 have HB := zaa (show Below w.heap.size w (w.alloc (.cells #[.int .u8 107, .int .u8 97] 5)) from (Below.refl _ _).alloc (Nat.le_refl _) _)
 go_enter Tryz.func96, Tryz.ntmps96
 go_wp2
 go_region
 go_wp2
 go_ret
 exact ⟨by kernel_rfl, HB.out.drew⟩
theorem z1p (w : World) : Calls Tryz.prog 96 #[.int .i64 11] w fun e w' => e = .returned (.string (zbo 11)) /\ Below w.heap.size w w' := by
 have kc : (convert 77 9 (.slice (some ⟨w.heap.size, 0, none⟩) 2 2)).run Tryz.prog (w.alloc (.cells #[.int .u8 108, .int .u8 97] 5)).drew = .ok (.string ⟨#[108, 97]⟩) (w.alloc (.cells #[.int .u8 108, .int .u8 97] 5)).drew := zci _ _ 108 97 (Blk.new w _ _).drew
 have HB := zaa (show Below w.heap.size w (w.alloc (.cells #[.int .u8 108, .int .u8 97] 5)) from (Below.refl _ _).alloc (Nat.le_refl _) _)
 go_enter Tryz.func96, Tryz.ntmps96
 go_wp2
 go_region
 go_wp2
 go_ret
 exact ⟨by kernel_rfl, HB.out.drew⟩
theorem z1q (w : World) : Calls Tryz.prog 96 #[.int .i64 12] w fun e w' => e = .returned (.string (zbo 12)) /\ Below w.heap.size w w' := by
 have kc : (convert 77 9 (.slice (some ⟨w.heap.size, 0, none⟩) 2 2)).run Tryz.prog (w.alloc (.cells #[.int .u8 109, .int .u8 97] 5)).drew = .ok (.string ⟨#[109, 97]⟩) (w.alloc (.cells #[.int .u8 109, .int .u8 97] 5)).drew := zci _ _ 109 97 (Blk.new w _ _).drew
 have HB := zaa (show Below w.heap.size w (w.alloc (.cells #[.int .u8 109, .int .u8 97] 5)) from (Below.refl _ _).alloc (Nat.le_refl _) _)
 go_enter Tryz.func96, Tryz.ntmps96
 go_wp2
 go_region
 go_wp2
 go_ret
 exact ⟨by kernel_rfl, HB.out.drew⟩
theorem z1r (w : World) : Calls Tryz.prog 96 #[.int .i64 13] w fun e w' => e = .returned (.string (zbo 13)) /\ Below w.heap.size w w' := by
 have kc : (convert 77 9 (.slice (some ⟨w.heap.size, 0, none⟩) 2 2)).run Tryz.prog (w.alloc (.cells #[.int .u8 110, .int .u8 97] 5)).drew = .ok (.string ⟨#[110, 97]⟩) (w.alloc (.cells #[.int .u8 110, .int .u8 97] 5)).drew := zci _ _ 110 97 (Blk.new w _ _).drew
 have HB := zaa (show Below w.heap.size w (w.alloc (.cells #[.int .u8 110, .int .u8 97] 5)) from (Below.refl _ _).alloc (Nat.le_refl _) _)
 go_enter Tryz.func96, Tryz.ntmps96
 go_wp2
 go_region
 go_wp2
 go_ret
 exact ⟨by kernel_rfl, HB.out.drew⟩
theorem z1s (w : World) : Calls Tryz.prog 96 #[.int .i64 14] w fun e w' => e = .returned (.string (zbo 14)) /\ Below w.heap.size w w' := by
 have kc : (convert 77 9 (.slice (some ⟨w.heap.size, 0, none⟩) 2 2)).run Tryz.prog (w.alloc (.cells #[.int .u8 111, .int .u8 97] 5)).drew = .ok (.string ⟨#[111, 97]⟩) (w.alloc (.cells #[.int .u8 111, .int .u8 97] 5)).drew := zci _ _ 111 97 (Blk.new w _ _).drew
 have HB := zaa (show Below w.heap.size w (w.alloc (.cells #[.int .u8 111, .int .u8 97] 5)) from (Below.refl _ _).alloc (Nat.le_refl _) _)
 go_enter Tryz.func96, Tryz.ntmps96
 go_wp2
 go_region
 go_wp2
 go_ret
 exact ⟨by kernel_rfl, HB.out.drew⟩
theorem z1t (w : World) : Calls Tryz.prog 96 #[.int .i64 15] w fun e w' => e = .returned (.string (zbo 15)) /\ Below w.heap.size w w' := by
 have kc : (convert 77 9 (.slice (some ⟨w.heap.size, 0, none⟩) 2 2)).run Tryz.prog (w.alloc (.cells #[.int .u8 112, .int .u8 97] 5)).drew = .ok (.string ⟨#[112, 97]⟩) (w.alloc (.cells #[.int .u8 112, .int .u8 97] 5)).drew := zci _ _ 112 97 (Blk.new w _ _).drew
 have HB := zaa (show Below w.heap.size w (w.alloc (.cells #[.int .u8 112, .int .u8 97] 5)) from (Below.refl _ _).alloc (Nat.le_refl _) _)
 go_enter Tryz.func96, Tryz.ntmps96
 go_wp2
 go_region
 go_wp2
 go_ret
 exact ⟨by kernel_rfl, HB.out.drew⟩
theorem z1u (w : World) : Calls Tryz.prog 96 #[.int .i64 16] w fun e w' => e = .returned (.string (zbo 16)) /\ Below w.heap.size w w' := by
 have kc : (convert 77 9 (.slice (some ⟨w.heap.size, 0, none⟩) 2 2)).run Tryz.prog (w.alloc (.cells #[.int .u8 113, .int .u8 97] 5)).drew = .ok (.string ⟨#[113, 97]⟩) (w.alloc (.cells #[.int .u8 113, .int .u8 97] 5)).drew := zci _ _ 113 97 (Blk.new w _ _).drew
 have HB := zaa (show Below w.heap.size w (w.alloc (.cells #[.int .u8 113, .int .u8 97] 5)) from (Below.refl _ _).alloc (Nat.le_refl _) _)
 go_enter Tryz.func96, Tryz.ntmps96
 go_wp2
 go_region
 go_wp2
 go_ret
 exact ⟨by kernel_rfl, HB.out.drew⟩
theorem z1v (w : World) : Calls Tryz.prog 96 #[.int .i64 17] w fun e w' => e = .returned (.string (zbo 17)) /\ Below w.heap.size w w' := by
 have kc : (convert 77 9 (.slice (some ⟨w.heap.size, 0, none⟩) 2 2)).run Tryz.prog (w.alloc (.cells #[.int .u8 114, .int .u8 97] 5)).drew = .ok (.string ⟨#[114, 97]⟩) (w.alloc (.cells #[.int .u8 114, .int .u8 97] 5)).drew := zci _ _ 114 97 (Blk.new w _ _).drew
 have HB := zaa (show Below w.heap.size w (w.alloc (.cells #[.int .u8 114, .int .u8 97] 5)) from (Below.refl _ _).alloc (Nat.le_refl _) _)
 go_enter Tryz.func96, Tryz.ntmps96
 go_wp2
 go_region
 go_wp2
 go_ret
 exact ⟨by kernel_rfl, HB.out.drew⟩
theorem z1w (w : World) : Calls Tryz.prog 96 #[.int .i64 18] w fun e w' => e = .returned (.string (zbo 18)) /\ Below w.heap.size w w' := by
 have kc : (convert 77 9 (.slice (some ⟨w.heap.size, 0, none⟩) 2 2)).run Tryz.prog (w.alloc (.cells #[.int .u8 115, .int .u8 97] 5)).drew = .ok (.string ⟨#[115, 97]⟩) (w.alloc (.cells #[.int .u8 115, .int .u8 97] 5)).drew := zci _ _ 115 97 (Blk.new w _ _).drew
 have HB := zaa (show Below w.heap.size w (w.alloc (.cells #[.int .u8 115, .int .u8 97] 5)) from (Below.refl _ _).alloc (Nat.le_refl _) _)
 go_enter Tryz.func96, Tryz.ntmps96
 go_wp2
 go_region
 go_wp2
 go_ret
 exact ⟨by kernel_rfl, HB.out.drew⟩
theorem z1x (w : World) : Calls Tryz.prog 96 #[.int .i64 19] w fun e w' => e = .returned (.string (zbo 19)) /\ Below w.heap.size w w' := by
 have kc : (convert 77 9 (.slice (some ⟨w.heap.size, 0, none⟩) 2 2)).run Tryz.prog (w.alloc (.cells #[.int .u8 116, .int .u8 97] 5)).drew = .ok (.string ⟨#[116, 97]⟩) (w.alloc (.cells #[.int .u8 116, .int .u8 97] 5)).drew := zci _ _ 116 97 (Blk.new w _ _).drew
 have HB := zaa (show Below w.heap.size w (w.alloc (.cells #[.int .u8 116, .int .u8 97] 5)) from (Below.refl _ _).alloc (Nat.le_refl _) _)
 go_enter Tryz.func96, Tryz.ntmps96
 go_wp2
 go_region
 go_wp2
 go_ret
 exact ⟨by kernel_rfl, HB.out.drew⟩
theorem z1y (k : Nat) (hk : k < 20) (w : World) : Calls Tryz.prog 96 #[.int .i64 k] w fun e w' => e = .returned (.string (zbo k)) /\ Below w.heap.size w w' :=
 match k, hk with
 | 0, _ => z2r w
 | 1, _ => z2s w
 | 2, _ => z2t w
 | 3, _ => z2u w
 | 4, _ => z2v w
 | 5, _ => z2w w
 | 6, _ => z2x w
 | 7, _ => z2y w
 | 8, _ => z2z w
 | 9, _ => z3a w
 | 10, _ => z1o w
 | 11, _ => z1p w
 | 12, _ => z1q w
 | 13, _ => z1r w
 | 14, _ => z1s w
 | 15, _ => z1t w
 | 16, _ => z1u w
 | 17, _ => z1v w
 | 18, _ => z1w w
 | 19, _ => z1x w
 | k + 20, h => absurd h (by omega)
def zqr : Str := ⟨#[118, 97, 108, 117, 101, 48, 49, 50, 51, 52, 53, 54]⟩
def zqs (k : Nat) : Str := zqr.extract 0 (k % 13)
theorem zjd (k : Nat) : okVal (zqs k) := by
 show (zqr.extract 0 (k % 13)).size <= 12
 rw [ByteArray.size_extract]
 have : zqr.size = 12 := rfl
 omega
theorem zx9 (k : Nat) (w : World) (hk : k < 4294967296) : Calls Tryz.prog 97 #[.int .i64 k] w fun e w' => e = .returned (.string (zqs k)) /\ w = w' := by
 have f3 : (k : Int).tmod 13 = ((k % 13 : Nat) : Int) := by rw [Int.tmod_eq_emod_of_nonneg (by omega)]; omega
 have f4 : IntKind.i64.wrap ((k % 13 : Nat) : Int) = ((k % 13 : Nat) : Int) := by rw [IntKind.wrap_i64]; omega
 have f6 : k % 13 <= 12 := by omega
 go_enter Tryz.func97, Tryz.ntmps97
 go_wp2
 go_ret
 exact ⟨rfl, rfl⟩
def zf6 : Str := ⟨#[102, 105, 114, 115, 116]⟩
def zqt : Str := ⟨#[111, 102, 32, 97, 108, 108]⟩
theorem zhn : zb1 zf6 := ⟨Nat.le_of_ble_eq_true rfl, Nat.le_of_ble_eq_true rfl⟩
theorem zje : okVal zqt := Nat.le_of_ble_eq_true rfl
end Go.Proofs.YtemondlgcmpbbaaGreatDoor
namespace Go.Proofs.YtemondlgcmpbbaaGreatDoor
set_option maxRecDepth 100000
theorem zmp {h : Nat} : ∀ {X : List (Str × Tr h)} {lo : Str} {hi : Option Str}, Chain (WF h) lo hi X -> (X.map (·.1)).Nodup /\ ∀ e ∈ X, e.1 = lo \/ slt lo e.1 = true
 | [], _, _, hc => hc.elim
 | a :: X, lo, hi, hc => by
   obtain ⟨c1, c2, c3⟩ := hc
   rcases c3 with ⟨rfl, _⟩ | ⟨k, k1, k2, k3, k4⟩
   . refine ⟨by simp, fun e he => ?_⟩
     rw [List.mem_singleton.1 he]
     exact .inl c1
   . obtain ⟨i1, i2⟩ := zmp k4
     have hgt : ∀ e ∈ X, slt lo e.1 = true := fun e he => by
      rcases i2 e he with h | h
      . rw [h]; exact k1
      . exact zbs k1 h
     refine ⟨?_, fun e he => ?_⟩
     . rw [List.map_cons, List.nodup_cons]
       refine ⟨fun hm => ?_, i1⟩
       obtain ⟨e, he, e1⟩ := List.mem_map.1 hm
       have := hgt e he
       rw [e1, c1, zbh] at this
       cases this
     . rcases List.mem_cons.1 he with rfl | he
       . exact .inl c1
       . exact .inr (hgt e he)
theorem zn2 {α : Type} (f : α -> Nat) : ∀ (l L : List α), l.Nodup -> (∀ x ∈ l, x ∈ L) -> (l.map f).sum <= (L.map f).sum
 | [], _, _, _ => Nat.zero_le _
 | a :: l, L, hn, hs => by
   obtain ⟨A, B, rfl⟩ := List.append_of_mem (hs a (List.mem_cons_self ..))
   obtain ⟨h1, h2⟩ := List.nodup_cons.1 hn
   have := zn2 f l (A ++ B) h2 fun x hx => by
    rcases List.mem_append.1 (hs x (List.mem_cons_of_mem _ hx)) with h | h
    . exact List.mem_append_left _ h
    . rcases List.mem_cons.1 h with h | h
      . subst h; exact absurd hx h1
      . exact List.mem_append_right _ h
   simp only [List.map_append, List.map_cons, List.sum_append, List.sum_cons] at *
   omega
def sz3 (s : Str) : Nat := s.size - 3
theorem zqu {K : Type} : ∀ X : List (Str × K), ksum X <= 10 * X.length + ((X.map (·.1)).map sz3).sum
 | [] => by simp [ksum]
 | a :: X => by
   have := zqu X
   rw [zhf]
   have e : ksz a = 7 + a.1.size := rfl
   have e2 : sz3 a.1 = a.1.size - 3 := rfl
   simp only [List.map_cons, List.sum_cons, List.length_cons]
   omega
theorem zya {L : List Str} {h : Nat} {X : List (Str × Tr h)} {lo : Str} {hi : Option Str} (hc : Chain (WF h) lo hi X) (hk : KL (fun s => s ∈ L \/ s = noKey) h X) : ksum X <= 10 * X.length + (L.map sz3).sum := by
 have h1 := zqu X
 have h2 := zn2 sz3 (X.map (·.1)) (noKey :: L) (zmp hc).1 fun x hx => by
  obtain ⟨e, he, rfl⟩ := List.mem_map.1 hx
  rcases (hk e he).1 with h | h
  . exact List.mem_cons_of_mem _ h
  . rw [h]; exact List.mem_cons_self ..
 rw [List.map_cons, List.sum_cons] at h2
 have e : sz3 noKey = 0 := rfl
 omega
theorem zs9 {h : Nat} : ∀ l : List (Str × Tr h), (∀ e ∈ l, Reg h e.2) -> 2 * l.length <= (kpairs h l).length
 | [], _ => Nat.zero_le _
 | a :: l, hl => by
   have h1 := zs9 l fun e he => hl e (List.mem_cons_of_mem _ he)
   have h2 := ziy h a.2 (hl a (List.mem_cons_self ..))
   have h3 : 1 <= 3 ^ h := Nat.one_le_pow _ _ (by omega)
   rw [za9, List.length_append, List.length_cons]
   omega
theorem zuu {L : List Str} (hL : (L.map sz3).sum <= 16) (hn : L.length <= 21) {t : Tree} (hw : TW t) (ht : TF t) (hs : TK (fun s => s ∈ L \/ s = noKey) t) (key : Str) (hk : t.keys <= 129) : TF (t.delete key) /\ zar (t.delete key) <= zar t + 9 :=
 zvn hw ht key hk fun h n hr hth htop hsemi => hsemi.fit _ _ (by
  have hwn := hw.some_ h n hr
  have hfn := (ht.some_ h n hr).2.1
  have hsn := hs.some_ h n hr
  cases h with
  | zero =>
    have h1 := (zdi key (Nd.es n) hwn.1 hth).2
    have h2 : lsum (Nd.es n) <= 116 := hfn
    exact Nat.le_trans h1 h2
  | succ h =>
    obtain ⟨d1, _⟩ := zea (h + 1) _ _ n key hwn (zav key) (zbr key) hth
    have dk := zm4 (V := fun s => s ∈ L \/ s = noKey) (.inr rfl) (h + 1) n key hsn
    obtain ⟨m, hm⟩ : ∃ m : Tr (h + 1), m = Tr.drop (h + 1) n key := ⟨_, rfl⟩
    rw [<- hm] at d1 dk htop ⊢
    have hkeys : (Tr.pairs (h + 1) m).length <= L.length := by
     have hw' : TW ⟨some ⟨h + 1, m⟩, (Tr.pairs (h + 1) m).length⟩ := ⟨fun e => (by cases e), fun h' n' e => (by cases e; exact d1), rfl⟩
     exact zm5 hw' ⟨fun h' n' e => (by cases e; exact dk)⟩
    have hsum := zya (X := Nd.es m) d1 dk
    have hlen : (Nd.es m).length <= 10 := by
     rcases htop with ⟨_, h2⟩ | ⟨e, he, _⟩
     . have h3 := zs9 (Nd.es m) h2
       have h4 : (Tr.pairs (h + 1) m).length = (kpairs h (Nd.es m)).length := rfl
       omega
     . rw [he]; simp
    show ksum (Nd.es m) <= 116
    omega)
end Go.Proofs.YtemondlgcmpbbaaGreatDoor
namespace Go.Proofs.YtemondlgcmpbbaaGreatDoor
open Go.RowKit
set_option maxRecDepth 100000
def L21 : List Str := zf6 :: (List.range 20).map zbo
def V21 : Str -> Prop := fun s => s ∈ L21 \/ s = noKey
theorem V21.key {k : Nat} (h : k < 20) : V21 (zbo k) := .inl (List.mem_cons_of_mem _ (List.mem_map.2 ⟨k, List.mem_range.2 h, rfl⟩))
theorem V21.first : V21 zf6 := .inl (List.mem_cons_self ..)
theorem zz5 : (L21.map sz3).sum = 16 := by rfl
theorem zta : L21.length = 21 := by rfl
theorem V21.size {s : Str} (h : V21 s) : s.size <= 8 := by
 rcases h with h | rfl
 . rcases List.mem_cons.1 h with rfl | h
   . exact zhn.2
   . obtain ⟨k, hk, rfl⟩ := List.mem_map.1 h
     exact (zh3 k (List.mem_range.1 hk)).2
 . exact Nat.zero_le _
theorem V21.keys {t : Tree} (hw : TW t) (h : TK V21 t) : t.keys <= 21 := by
 have := zm5 (L := L21) hw h
 rwa [zta] at this
theorem Good.put21 {t : Tree} (h : Good V21 t) {k : Str} (hk : V21 k) (h1 : zb1 k) {v : Str} (h2 : okVal v) : Good V21 (t.put k v) /\ zar (t.put k v) <= zar t + 9 :=
 h.put (.inr rfl) hk h1 h2 (Nat.le_trans (V21.keys (h.tr.put h1 h2).tw (h.tk.put (.inr rfl) hk)) (by omega))
theorem Good.del21 {t : Tree} (h : Good V21 t) (k : Str) : Good V21 (t.delete k) /\ zar (t.delete k) <= zar t + 9 := by
 have := zuu (L := L21) (Nat.le_of_eq zz5) (by rw [zta]; omega) h.tr.tw h.tf h.tk k h.few
 exact ⟨⟨h.tr.delete k, this.1, h.tk.delete (.inr rfl) k, h.sm.delete zv5 k, Nat.le_trans (zm9 t k) h.few⟩, this.2⟩
theorem Good.keys21 {t : Tree} (h : Good V21 t) : t.keys <= 21 := V21.keys h.tr.tw h.tk
theorem Good.key8 {t : Tree} (h : Good V21 t) : ∀ e ∈ t.pairs, e.1.size <= 8 := fun e he => V21.size (h.tk.pairs e he)
theorem zmq {key : Str} {es : List (Str × Str)} (ht : there key es = true) : ∃ v, es.drop (place key es) = (key, v) :: es.drop (place key es + 1) := by
 unfold there at ht
 cases hd : es.drop (place key es) with
 | nil => rw [hd] at ht; cases ht
 | cons x l =>
   rw [hd] at ht
   simp only at ht
   have hx : x.1 = key := Classical.byContradiction fun h => by rw [ze3 h] at ht; cases ht
   have hl : es.drop (place key es + 1) = l := by rw [<- List.drop_drop, hd]; rfl
   exact ⟨x.2, by rw [hl, <- hx]⟩
theorem zn3 {e : Str × Str} {es : List (Str × Str)} (p : Nat) (he : e ∈ es) : e ∈ es.take p \/ e ∈ es.drop p := by
 rw [<- List.take_append_drop p es] at he
 exact List.mem_append.1 he
theorem zuv {key v : Str} {es : List (Str × Str)} {e : Str × Str} (he : e ∈ es) (hne : e.1 ≠ key) : e ∈ zbq key v es := by
 unfold zbq
 rcases zn3 (place key es) he with h | h
 . exact List.mem_append.2 (.inl h)
 . refine List.mem_append.2 (.inr (List.mem_cons_of_mem _ ?_))
   cases ht : there key es with
   | false => simpa using h
   | true =>
     simp only [if_true]
     obtain ⟨u, hu⟩ := zmq ht
     rw [hu] at h
     rcases List.mem_cons.1 h with rfl | h
     . exact absurd rfl hne
     . exact h
theorem zr4 {key : Str} {es : List (Str × Str)} {e : Str × Str} (he : e ∈ es) (hne : e.1 ≠ key) : e ∈ zjo key es := by
 unfold zjo
 cases ht : there key es with
 | false => simpa using he
 | true =>
   simp only [if_true]
   unfold zbu
   rcases zn3 (place key es) he with h | h
   . exact List.mem_append.2 (.inl h)
   . obtain ⟨u, hu⟩ := zmq ht
     rw [hu] at h
     rcases List.mem_cons.1 h with rfl | h
     . exact absurd rfl hne
     . exact List.mem_append.2 (.inr h)
def HasF (t : Tree) : Prop := ∃ v, (zf6, v) ∈ t.pairs
theorem HasF.ne {t : Tree} (h : HasF t) : t.pairs ≠ [] := fun e => by obtain ⟨v, hv⟩ := h; rw [e] at hv; cases hv
theorem HasF.same {t t' : Tree} (h : HasF t) (e : t'.pairs = t.pairs) : HasF t' := by obtain ⟨v, hv⟩ := h; exact ⟨v, e ▸ hv⟩
theorem zjf : ∀ k, k < 20 -> zf6 ≠ zbo k := by
 intro k hk e
 have h : (L21.map fun s => s.data.toList).Nodup := by decide +kernel
 unfold L21 at h
 rw [List.map_cons, List.nodup_cons] at h
 refine h.1 (List.mem_map.2 ⟨zbo k, List.mem_map.2 ⟨k, List.mem_range.2 hk, rfl⟩, by rw [e]⟩)
theorem HasF.put {t : Tree} (h : HasF t) (hw : TW t) {k : Nat} {v : Str} (hk : k < 20) (h2 : okVal v) : HasF (t.put (zbo k) v) := by
 obtain ⟨u, hu⟩ := h
 exact ⟨u, by rw [(zhh hw (zh3 k hk) h2).1]; exact zuv hu (zjf k hk)⟩
theorem HasF.delete {t : Tree} (h : HasF t) (hw : TW t) {k : Nat} (hk : k < 20) : HasF (t.delete (zbo k)) := by
 obtain ⟨u, hu⟩ := h
 exact ⟨u, by rw [(zi2 hw (zbo k)).1]; exact zr4 hu (zjf k hk)⟩
theorem HasF.first {t : Tree} (hw : TW t) {v : Str} (h2 : okVal v) : HasF (t.put zf6 v) := by
 refine ⟨v, ?_⟩
 rw [(zhh hw zhn h2).1]
 unfold zbq
 simp
structure Clo (J : Tree -> Prop) : Prop where
 put : ∀ T i v, i < 20 -> okVal v -> Good V21 T -> J T -> J (T.put (zbo i) v)
 del : ∀ T i, i < 20 -> Good V21 T -> J T -> J (T.delete (zbo i))
set_option maxHeartbeats 2000000 in
theorem zuw (a : Int) (n : Nat) {N K b nb x G t S : Nat} {T T1 : Tree} {r : SR} {rs : List Rdr} {rp : Value} {ds : List Nat} {stamp : Int} {w : World} (ha : I64 a) (hn : n <= 60) (hs : StoreR N w K b nb x G (.pointer (some ⟨t, 0, none⟩)) T r rs) (ht : Trans N w t x S T1 rp ds stamp) (hg : Good V21 T1) (hS : S <= 1000) (hr : (22 : Int) <= zgi nb) :
   Calls Tryz.prog 62 #[.pointer (some ⟨t, 0, none⟩), .int .i64 a, .int .i64 n, .int .i64 20] w fun e w' => e = .returned (.bool true) /\ StoreR N w' K b nb x G (.pointer (some ⟨t, 0, none⟩)) T r rs /\ (∃ T2 rp2 ds2 st2, Trans N w' t x (S + n) T2 rp2 ds2 st2 /\ Good V21 T2 /\ (∀ J : Tree -> Prop, Clo J -> J T1 -> J T2)) /\ KpP N w w' := by
 have HP := zaa (zg3 a 2147483648 w ha (by omega) (by omega))
 have hq0 := zfj a 2147483648 (by omega)
 obtain ⟨q0, hq⟩ : ∃ q, q = zdl a 2147483648 := ⟨_, rfl⟩
 rw [<- hq] at HP hq0
 have HQ := zaa hq0
 have HS := zaa hs
 have HT := zaa ht
 have HG := zaa hg
 have HRM := zaa hr
 clear hq hs ht hg ha hr hq0
 go_enter Tryz.func62, Tryz.ntmps62
 go_wp2_with (go_at_call 18; go_loud (refine HP.out.mono ?_; rintro e w' ⟨rfl, rfl⟩))
 go_loopw [9, 10] (fun v i wr => ∃ j q : Nat, j <= n /\ q < 2147483648 /\ v = .int .i64 q /\ i = .int .i64 j /\ StoreR N wr K b nb x G (.pointer (some ⟨t, 0, none⟩)) T r rs /\ (∃ T2 rp2 ds2 st2, Trans N wr t x (S + j) T2 rp2 ds2 st2 /\ Good V21 T2 /\ (∀ J : Tree -> Prop, Clo J -> J T1 -> J T2)) /\ KpP N w wr) (fun _ i _ => n - (intOf i).toNat)
 case atStart => exact ⟨0, q0, Nat.zero_le _, HQ.out, rfl, rfl, HS.out, ⟨_, _, _, _, HT.out, HG.out, (fun _ _ h => h)⟩, KpP.refl _ _⟩
 case round =>
  obtain ⟨j, q1, hj, hq1, rfl, rfl, hs, ⟨T2, rp2, ds2, st2, ht, hg, hf⟩, hk⟩ := hrel
  by_cases hlt : j < n
  . have hlt' : (j : Int) < (n : Int) := by omega
    have HMX := zaa (zx7 q1 wr hq1)
    have hql := zn1 q1
    obtain ⟨q, hq⟩ : ∃ q, q = mixedN q1 := ⟨_, rfl⟩
    rw [<- hq] at HMX hql
    clear hq
    have d1 : (q : Int).tdiv 16 = (q : Int) / 16 := Int.tdiv_eq_ediv_of_nonneg (by omega)
    have d2 : IntKind.i64.wrap ((q : Int) / 16) = (q : Int) / 16 := by rw [IntKind.wrap_i64]; omega
    have d3 : ((q : Int) / 16).tmod 20 = (q : Int) / 16 % 20 := Int.tmod_eq_emod_of_nonneg (by omega)
    have hik : q / 16 % 20 < 20 := by omega
    have hci : ((q / 16 % 20 : Nat) : Int) = (q : Int) / 16 % 20 := by push_cast; rfl
    have d4 : IntKind.i64.wrap ((q : Int) / 16 % 20) = (q : Int) / 16 % 20 := by rw [IntKind.wrap_i64]; omega
    have e1 : (q : Int).tdiv 4 = (q : Int) / 4 := Int.tdiv_eq_ediv_of_nonneg (by omega)
    have e2 : IntKind.i64.wrap ((q : Int) / 4) = (q : Int) / 4 := by rw [IntKind.wrap_i64]; omega
    have e3 : ((q : Int) / 4).tmod 4 = (q : Int) / 4 % 4 := Int.tmod_eq_emod_of_nonneg (by omega)
    have e4 : IntKind.i64.wrap ((q : Int) / 4 % 4) = (q : Int) / 4 % 4 := by rw [IntKind.wrap_i64]; omega
    have f1 : (q : Int).tdiv 64 = (q : Int) / 64 := Int.tdiv_eq_ediv_of_nonneg (by omega)
    have f2 : IntKind.i64.wrap ((q : Int) / 64) = (q : Int) / 64 := by rw [IntKind.wrap_i64]; omega
    have hcv : ((q / 64 : Nat) : Int) = (q : Int) / 64 := by push_cast; rfl
    have HKF := zaa (z1y (q / 16 % 20) hik wr)
    have HVF := zaa (fun W => zx9 (q / 64) W (by omega))
    rw [hci] at HKF
    rw [hcv] at HVF
    have HS1 := zaa hs
    have HT1 := zaa ht
    have HG1 := zaa hg
    have HF1 := zaa hf
    have HK1 := zaa hk
    have HQL := zaa hql
    have HIK := zaa hik
    clear hs ht hg hf hk hql hik hci hcv
    by_cases hq4 : (q : Int) / 4 % 4 = 0
    all_goals (
     go_wp2_with (first
      | (go_at_call 20; go_loud (refine HMX.out.mono ?_; rintro e w' ⟨rfl, rfl⟩))
      | (go_at_call 96; go_loud (
         (with_reducible refine HKF.out.mono ?_); rintro e w5 ⟨rfl, hb5⟩
         have hrm : (T2.get (zbo (q / 16 % 20))).isSome = true \/ (T2.keys : Int) < zgi nb := .inr (by have := HG1.out.keys21; have := HRM.out; omega)
         have HPT := zaa (fun (V : Str) (hv : okVal V) => zwm (zbo (q / 16 % 20)) V (HS1.out.below hb5) (HT1.out.below hb5) HG1.out.tr HG1.out.pairs (zh3 _ HIK.out) hv (by omega) hrm)
         have HDL := zaa (zwn (zbo (q / 16 % 20)) (HS1.out.below hb5) (HT1.out.below hb5) HG1.out.tr HG1.out.pairs (zh3 _ HIK.out) (by omega))
         have HB5 := zaa hb5
         clear hb5 hrm))
      | (go_at_call 97; go_loud (refine (HVF.out _).mono ?_; rintro e w' ⟨rfl, rfl⟩))
      | (go_at_call 24; go_loud (
         refine (HPT.out (zqs (q / 64)) (zjd _)).mono ?_; rintro e w7 ⟨rfl, hs7, ⟨rp', ds', ht7⟩, hk7⟩
         obtain ⟨T3, ht7, hg7, hf7⟩ : ∃ T3, Trans N w7 t x (S + (j + 1)) T3 rp' ds' (st2 + 1) /\ Good V21 T3 /\ (∀ J : Tree -> Prop, Clo J -> J T1 -> J T3) := ⟨_, ht7, (HG1.out.put21 (V21.key HIK.out) (zh3 _ HIK.out) (zjd _)).1, fun J hJ h => hJ.put _ _ _ HIK.out (zjd _) HG1.out (HF1.out J hJ h)⟩
         have HS7 := zaa hs7
         have HT7 := zaa ht7
         have HG7 := zaa hg7
         have HF7 := zaa hf7
         have HK7 := zaa hk7
         clear hs7 ht7 hg7 hf7 hk7))
      | (go_at_call 23; go_loud (
         refine HDL.out.mono ?_; rintro e w7 ⟨rfl, hs7, ⟨rp', ds', ht7⟩, hk7⟩
         obtain ⟨T3, ht7, hg7, hf7⟩ : ∃ T3, Trans N w7 t x (S + (j + 1)) T3 rp' ds' (st2 + 1) /\ Good V21 T3 /\ (∀ J : Tree -> Prop, Clo J -> J T1 -> J T3) := ⟨_, ht7, (HG1.out.del21 _).1, fun J hJ h => hJ.del _ _ HIK.out HG1.out (HF1.out J hJ h)⟩
         have HS7 := zaa hs7
         have HT7 := zaa ht7
         have HG7 := zaa hg7
         have HF7 := zaa hf7
         have HK7 := zaa hk7
         clear hs7 ht7 hg7 hf7 hk7)))
     go_roundw
     case rel => exact ⟨j + 1, q, by omega, HQL.out, rfl, by go_num, HS7.out, ⟨_, _, _, _, HT7.out, HG7.out, HF7.out⟩, (HK1.out.trans (KpP.of_below HB5.out HS1.out.size)).trans HK7.out⟩
     case measure => simp [intOf]; omega)
  . obtain rfl : j = n := by omega
    have hnl : ¬ (j : Int) < (j : Int) := by omega
    have HS1 := zaa hs
    have HT1 := zaa (show ∃ T2 rp2 ds2 st2, Trans N wr t x (S + j) T2 rp2 ds2 st2 /\ Good V21 T2 /\ (∀ J : Tree -> Prop, Clo J -> J T1 -> J T2) from ⟨_, _, _, _, ht, hg, hf⟩)
    have HK1 := zaa hk
    clear hs ht hg hf hk
    go_wp2
    go_ret
    exact ⟨rfl, HS1.out, (by obtain ⟨T2, a1, a2, a3, a4, a5⟩ := HT1.out; exact ⟨T2, ⟨a1, a2, a3, a4⟩, a5⟩), HK1.out⟩
set_option maxHeartbeats 1000000 in
theorem zg4 (a : Int) (n : Nat) {N K b nb x G : Nat} {T : Tree} {r : SR} {rs : List Rdr} {w : World} (ha : I64 a) (hn : n <= 60) (hs : StoreR N w K b nb x G (.pointer none) T r rs) (hg : Good V21 T) (hr : (22 : Int) <= zgi nb) :
   Calls Tryz.prog 29 #[.pointer (some ⟨x, 0, none⟩), .int .i64 a, .int .i64 n] w fun e w' => ∃ t v T2 rp2 ds2 st2, e = .returned (.tuple #[.pointer (some ⟨t, 0, none⟩), v]) /\ StoreR N w' K b nb x G (.pointer (some ⟨t, 0, none⟩)) T r rs /\ Trans N w' t x n T2 rp2 ds2 st2 /\ Good V21 T2 /\ PRow w' v T2.pairs /\ KpP N w w' /\ (∀ J : Tree -> Prop, Clo J -> J T -> J T2) := by
 have HBG := zaa (zx6 hs)
 have HG := zaa hg
 have HRM := zaa hr
 have HA := zaa ha
 clear hs hg hr ha
 go_enter Tryz.func29, Tryz.ntmps29
 go_wp2_with (first
  | (go_at_call 22; go_loud (
     refine HBG.out.mono ?_; rintro e w1 ⟨t, rfl, hs1, ht1, hk1⟩
     have HC := zaa (zuw a n HA.out hn hs1 ht1 HG.out (by omega) HRM.out)
     have HK1 := zaa hk1
     clear hs1 ht1 hk1))
  | (go_at_call 62; go_loud (
     refine HC.out.mono ?_; rintro e w2 ⟨rfl, hs2, ⟨T2, rp2, ds2, st2, ht2, hg2, hf2⟩, hk2⟩
     have HAL := zaa (zlf t x _ _ T2 ds2 w2 ht2.tx hs2.db rfl rfl rfl ht2.tree hg2.tr hg2.pairs hg2.key8)
     have HS2 := zaa hs2
     have HT2 := zaa ht2
     have HG2 := zaa hg2
     have HF2 := zaa hf2
     have HK2 := zaa hk2
     clear hs2 ht2 hg2 hf2 hk2))
  | (go_at_call 32; go_loud (
     refine HAL.out.mono ?_; rintro e w3 ⟨v, rfl, hrow, hb3⟩
     have HROW := zaa hrow
     have HB3 := zaa hb3
     clear hrow hb3)))
 go_ret2
 exact ⟨t, v, T2, rp2, ds2, st2, rfl, HS2.out.below HB3.out, by have := HT2.out.below HB3.out; rwa [Nat.zero_add] at this, HG2.out, HROW.out, (HK1.out.trans HK2.out).trans (KpP.of_below HB3.out HS2.out.size), HF2.out⟩
end Go.Proofs.YtemondlgcmpbbaaGreatDoor
