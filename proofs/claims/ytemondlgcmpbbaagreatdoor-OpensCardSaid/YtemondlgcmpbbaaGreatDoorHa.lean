/- Walks: disk.head: its bytes. -/
import Derived.Test.YtemondlgcmpbbaaGreatDoorCs
namespace Go.Proofs.YtemondlgcmpbbaaGreatDoor
open Go.RowKit

def splB (l : List UInt8) (o : Nat) (cs : List UInt8) : List UInt8 := l.take o ++ cs ++ l.drop (o + cs.length)
theorem bc_splB (l : List UInt8) (o : Nat) (cs : List UInt8) : spl (bc l) o (bc cs) = bc (splB l o cs) := by
  unfold spl splB
  rw [bc_app, bc_app, bc_take, bc_drop, bc_length]
theorem splB_length {l : List UInt8} {o : Nat} {cs : List UInt8} (h : o + cs.length ≤ l.length) : (splB l o cs).length = l.length := by
  unfold splB
  simp only [List.length_append, List.length_take, List.length_drop]
  omega

theorem dput32_b (g o n c : Nat) (bytes : List UInt8) (x : Nat) (w : World) (hb : Blk w g 5 (bc bytes).toArray) (h1 : o + 4 ≤ bytes.length) (h2 : 4 ≤ n) (hn : n ≤ 1000) (hx : x < 4294967296) :
    Calls Tryz.prog 136 #[.slice (some ⟨g, o, none⟩) n c, .int .u32 x] w fun e w' => e = .returned (.tuple #[]) ∧ Blk w' g 5 (bc (splB bytes o (le4 x))).toArray ∧ Only (· = g) w w' :=
  (dput32_any g o n c (bc bytes) x w hb (by rw [bc_length]; exact h1) h2 hn hx).mono fun _ _ ⟨h1, h2, h3⟩ => ⟨h1, by rw [← bc_splB]; exact h2, h3⟩

def Z32 : List UInt8 := List.replicate 32 0
theorem make32 (w : World) : (Instr.makeSlice 77 (.int .i64 32) (.int .i64 32)).run Tryz.prog w = .ok (.slice (some ⟨w.heap.size, 0, none⟩) 32 32) (w.alloc (.cells (bc Z32).toArray 5)) := by kernel_rfl

/-- A head's sector, without its sum; with it. -/
def headB0 (gen blk rgen : Nat) : List UInt8 := splB (splB (splB (splB Z32 4 (le4 827479123)) 8 (le4 gen)) 12 (le4 blk)) 16 (le4 rgen)
def headB (gen blk rgen : Nat) : List UInt8 := sealN (headB0 gen blk rgen)

/-- A head as a value. -/
def headV (slot gen blk rgen : Nat) : Array Value := #[.int .i64 slot, .int .u32 gen, .int .i64 blk, .int .u32 rgen]

set_option maxRecDepth 100000 in
set_option maxHeartbeats 1000000 in
theorem headBytes_any (slot gen blk rgen : Nat) (w : World) (hg : gen < 4294967296) (hbk : blk < 4294967296) (hr : rgen < 4294967296) :
    Calls Tryz.prog 95 #[.agg (headV slot gen blk rgen)] w fun e w' => ∃ g, e = .returned (.slice (some ⟨g, 0, none⟩) 32 32) ∧ Blk w' g 5 (bc (headB gen blk rgen)).toArray ∧ w.heap.size ≤ g ∧ Below w.heap.size w w' := by
  have hmk := make32
  have l0 : Z32.length = 32 := rfl
  have l1 : (splB Z32 4 (le4 827479123)).length = 32 := rfl
  have l2 : (splB (splB Z32 4 (le4 827479123)) 8 (le4 gen)).length = 32 := rfl
  have l3 : (splB (splB (splB Z32 4 (le4 827479123)) 8 (le4 gen)) 12 (le4 blk)).length = 32 := rfl
  have l4 : (headB0 gen blk rgen).length = 32 := rfl
  have L0 := hide l0
  have L1 := hide l1
  have L2 := hide l2
  have L3 := hide l3
  have L4 := hide l4
  have q0 : (0 : Int) ≤ (blk : Int) := by omega
  have q1 : (blk : Int) < 4294967296 := by omega
  clear l0 l1 l2 l3 l4
  unfold headV
  go_enter Tryz.func95, Tryz.ntmps95
  go_wp2_with fail
  have hb0 : Blk ((w.alloc (.cells #[.int .i64 slot, .int .u32 gen, .int .i64 blk, .int .u32 rgen] 149)).alloc (.cells (bc Z32).toArray 5)) (w.heap.size + 1) 5 (bc Z32).toArray := Blk.new2 _ _ _ _
  have hh0 : Blk ((w.alloc (.cells #[.int .i64 slot, .int .u32 gen, .int .i64 blk, .int .u32 rgen] 149)).alloc (.cells (bc Z32).toArray 5)) w.heap.size 149 #[.int .i64 slot, .int .u32 gen, .int .i64 blk, .int .u32 rgen] := (Blk.new w _ _).alloc _
  have hbel : Below w.heap.size w ((w.alloc (.cells #[.int .i64 slot, .int .u32 gen, .int .i64 blk, .int .u32 rgen] 149)).alloc (.cells (bc Z32).toArray 5)) := ((Below.refl _ _).alloc (Nat.le_refl _) _).alloc (by simp) _
  have HB0 := hide hb0
  have HH0 := hide hh0
  have HBEL := hide hbel
  clear hb0 hh0 hbel hmk
  refine (dput32_b (w.heap.size + 1) 4 28 28 Z32 827479123 _ HB0.out (by rw [L0.out]; omega) (by omega) (by omega) (by omega)).mono ?_
  rintro e w1 ⟨rfl, hb1, ho1⟩
  have hh1 := ho1.blk HH0.out (by simp)
  have c1 : w1.cell? ⟨w.heap.size, 1, none⟩ = some (.int .u32 gen) := cellOf hh1 1 rfl
  have HB1 := hide hb1
  have HO1 := hide ho1
  have HH1 := hide hh1
  clear hb1 ho1 hh1
  go_wp2_with fail
  go_region_with (go_at_call 136; refine (dput32_b (w.heap.size + 1) 8 24 24 _ gen _ HB1.out.drew (by rw [L1.out]; omega) (by omega) (by omega) hg).mono ?_; rintro e w2 ⟨rfl, hb2, ho2⟩)
  have hh2 := (Only.blk ho2 HH1.out.drew (by simp))
  have c2 : w2.cell? ⟨w.heap.size, 2, none⟩ = some (.int .i64 blk) := cellOf hh2 2 rfl
  have HB2 := hide hb2
  have HO2 := hide ho2
  have HH2 := hide hh2
  clear hb2 ho2 hh2 c1
  have hwrap : IntKind.u32.wrap (blk : Int) = (blk : Int) := by rw [IntKind.wrap_u32]; omega
  have hmod : (blk : Int) % 4294967296 = (blk : Int) := by omega
  go_wp2_with fail
  go_region_with (go_at_call 136; refine (dput32_b (w.heap.size + 1) 12 20 20 _ blk _ HB2.out.drew (by rw [L2.out]; omega) (by omega) (by omega) hbk).mono ?_; rintro e w3 ⟨rfl, hb3, ho3⟩)
  have hh3 := (Only.blk ho3 HH2.out.drew (by simp))
  have c3 : w3.cell? ⟨w.heap.size, 3, none⟩ = some (.int .u32 rgen) := cellOf hh3 3 rfl
  have HB3 := hide hb3
  have HO3 := hide ho3
  have HH3 := hide hh3
  clear hb3 ho3 hh3 c2 hwrap hmod
  go_wp2_with fail
  go_region_with (go_at_call 136; refine (dput32_b (w.heap.size + 1) 16 16 16 _ rgen _ HB3.out.drew (by rw [L3.out]; omega) (by omega) (by omega) hr).mono ?_; rintro e w4 ⟨rfl, hb4, ho4⟩)
  have HB4 := hide hb4
  have HO4 := hide ho4
  clear hb4 ho4 c3
  go_wp2_with (go_at_call 135; refine (seal_any (w.heap.size + 1) 32 (headB0 gen blk rgen) _ HB4.out L4.out (by omega) (by omega)).mono ?_; rintro e w5 ⟨rfl, hb5, ho5⟩)
  go_ret
  refine ⟨_, rfl, hb5, by omega, ?_⟩
  have hfp : ∀ x : Nat, x = w.heap.size + 1 → w.heap.size ≤ x := fun x hx => by omega
  have s1 : w.heap.size + 1 ≤ w1.heap.size := by have := HH1.out.lt; omega
  have s2 : w.heap.size + 1 ≤ w2.heap.size := by have := HH2.out.lt; omega
  have s3 : w.heap.size + 1 ≤ w3.heap.size := by have := HH3.out.lt; omega
  have s4 : w.heap.size ≤ w4.heap.size := by have := HB4.out.lt; omega
  exact ((((HBEL.out.trans (HO1.out.to_below (by simp only [World.size_alloc]; omega) hfp)).drew.trans (HO2.out.to_below (show w.heap.size ≤ w1.heap.size by omega) hfp)).drew.trans (HO3.out.to_below (show w.heap.size ≤ w2.heap.size by omega) hfp)).drew.trans (HO4.out.to_below (show w.heap.size ≤ w3.heap.size by omega) hfp)).trans (ho5.to_below s4 hfp)
end Go.Proofs.YtemondlgcmpbbaaGreatDoor
