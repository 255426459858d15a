/- Walks: api.NewDisk, Bytes, Laid. -/
import Derived.Test.YtemondlgcmpbbaaGreatDoorPl
import Derived.Laws.MakeOwn
namespace Go.Proofs.YtemondlgcmpbbaaGreatDoor
open Go.RowKit

/-- How many blocks NewDisk makes of a number. -/
def blocksN (n : Int) : Nat := if n < 0 then 0 else (n % 1000).toNat
theorem blocksN_lt (n : Int) : blocksN n < 1000 := by unfold blocksN; split <;> omega
/-- A new disk's numbers. -/
def Nums.new : Nums := ⟨0, 0, 0, -1, 0, 0⟩
theorem Nums.new_calm : Nums.new.calm := ⟨by decide, by decide⟩
theorem Nums.new_sm (K : Nat) : Nums.new.sm K := ⟨by decide, Int.natCast_nonneg K, by decide, Int.natCast_nonneg K, by decide, Int.natCast_nonneg K⟩

theorem info_arr : (Tryz.prog.info? 111).map (fun i => (i.zero, i.size, i.bytes)) = some (some (.agg (bc (List.replicate 128 0)).toArray), 128, 128) := by kernel_rfl
theorem made_const (v : Value) (m n : Nat) (hm : 0 < m) : madeCells (List.replicate m v).toArray n = (List.replicate n v).toArray := by
  apply Array.ext'
  unfold madeCells
  rw [Array.toList_map, Array.toList_range]
  have h : ∀ j ∈ List.range n, (List.replicate m v).toArray[j % (List.replicate m v).toArray.size]! = v := fun j _ => by
    have h0 : j % (List.replicate m v).toArray.size < (List.replicate m v).toArray.size := Nat.mod_lt _ (by simpa using hm)
    rw [getElem!_pos (List.replicate m v).toArray _ h0]
    simp
  rw [List.map_congr_left h, List.map_const']
  simp
theorem bc_zero (n : Nat) : bc (List.replicate n 0) = List.replicate n (.int .u8 0) := by simp [bc]
theorem madeZero (k : Nat) : madeCells (bc (List.replicate 128 0)).toArray (k * 128) = (bc (List.replicate (k * 128) 0)).toArray := by
  rw [bc_zero, bc_zero]
  exact made_const _ _ _ (by omega)

theorem make_blocks (w : World) (k : Nat) (hk : k < 1000) : (Instr.makeSlice 100 (.int .i64 k) (.int .i64 k)).run Tryz.prog w = .ok (.slice (some ⟨w.heap.size, 0, none⟩) k k) (w.alloc (.cells (bc (List.replicate (k * 128) 0)).toArray 111)) := by
  obtain ⟨i0, hi0, hz0, hz1, hz2⟩ := info_parts info_arr
  have := run_make (P := Tryz.prog) w 100 111 i0 _ Tryz.underlying100 hi0 hz0 .i64 .i64 k k (by omega) (Int.le_refl _) (by rw [hz2]; omega) (by omega)
  rw [hz1] at this
  simp only [Int.toNat_natCast, Value.cells] at this
  rw [madeZero] at this
  exact this

set_option maxRecDepth 100000 in
theorem newDisk_any (n : Int) (base : Nat) (w : World) (hb : base ≤ w.heap.size) :
    Calls Tryz.prog 49 #[.int .i64 n] w fun e w' => ∃ b g, e = .returned (.pointer (some ⟨b, 0, none⟩)) ∧ Dk w' 0 b g base (blocksN n) (.slice none 0 0) Nums.new (List.replicate (blocksN n * 128) 0) [] ∧ w.heap.size ≤ b ∧ w.heap.size ≤ g ∧ Below w.heap.size w w' := by
  have fin : ∀ k : Nat, k < 1000 → k = blocksN n → ∀ w' : World, w' = ((w.alloc (.cells (bc (List.replicate (k * 128) 0)).toArray 111)).alloc (.cells #[.slice (some ⟨w.heap.size, 0, none⟩) k k, .slice none 0 0, .int .i64 0, .int .i64 0, .int .i64 0, .int .i64 (-1), .int .i64 0, .int .i64 0] 103)) →
      ∃ b g, Ending.returned (.pointer (some ⟨w.heap.size + 1, 0, none⟩)) = .returned (.pointer (some ⟨b, 0, none⟩)) ∧ Dk w' 0 b g base (blocksN n) (.slice none 0 0) Nums.new (List.replicate (blocksN n * 128) 0) [] ∧ w.heap.size ≤ b ∧ w.heap.size ≤ g ∧ Below w.heap.size w w' := by
    rintro k hk rfl w' rfl
    refine ⟨w.heap.size + 1, w.heap.size, rfl, ⟨Blk.new2 _ _ _ _, (Blk.new w _ _).alloc _, by simp, ⟨rfl, .inl ⟨rfl, rfl⟩⟩, (fun x hx => by cases hx), Nat.zero_le _, Nums.new_sm 0, by omega, by simp; omega⟩, by omega, by omega, ((Below.refl _ _).alloc (Nat.le_refl _) _).alloc (by simp) _⟩
  by_cases hn : n < 0
  · have hmk := make_blocks w 0 (by omega)
    have h0 : (((0 : Nat) : Int)) = 0 := rfl
    rw [h0] at hmk
    have HF := hide (fin 0 (by omega) (by unfold blocksN; rw [if_pos hn]))
    clear fin
    go_enter Tryz.func49, Tryz.ntmps49
    go_wp2
    go_ret
    obtain ⟨b, g, h1, h2, h3, h4, h5⟩ := HF.out _ rfl
    first | exact ⟨b, h1, g, h2, h3, h4, h5⟩ | exact ⟨b, g, h1, h2, h3, h4, h5⟩
  · obtain ⟨k, hk⟩ : ∃ k : Nat, n = k := ⟨n.toNat, by omega⟩
    have hmk := make_blocks w (k % 1000) (by omega)
    rw [show ((k % 1000 : Nat) : Int) = (k : Int) % 1000 by omega] at hmk
    have HF := hide (fin (k % 1000) (by omega) (by unfold blocksN; rw [if_neg hn, hk]; omega))
    subst hk
    have ht : Int.tmod (k : Int) 1000 = ((k % 1000 : Nat) : Int) := by rw [Int.tmod_eq_emod_of_nonneg (by omega)]; omega
    clear fin
    go_enter Tryz.func49, Tryz.ntmps49
    go_wp2
    go_ret
    obtain ⟨b, g, h1, h2, h3, h4, h5⟩ := HF.out _ rfl
    first | exact ⟨b, h1, g, h2, h3, h4, h5⟩ | exact ⟨b, g, h1, h2, h3, h4, h5⟩
end Go.Proofs.YtemondlgcmpbbaaGreatDoor
