/- Walks: the disk in memory (package api): its struct's block; the small methods. -/
import Derived.Test.YtemondlgcmpbbaaGreatDoorFr
import Derived.Outline
namespace Go.Proofs.YtemondlgcmpbbaaGreatDoor
open Go.RowKit

theorem rBool {a b : Bool} (h : a = b) : Ending.returned (.bool a) = Ending.returned (.bool b) := by rw [h]

/-- A disk's own numbers. -/
structure Nums where
  calls : Int
  writes : Int
  told : Int
  off : Int
  bfrom : Int
  bto : Int

/-- Numbers that are far from the edge. -/
def Nums.small (m : Nums) : Prop := 0 ≤ m.calls ∧ m.calls ≤ 4611686018427387904 ∧ 0 ≤ m.writes ∧ m.writes ≤ 4611686018427387904 ∧ 0 ≤ m.told ∧ m.told ≤ 4611686018427387904

/-- The disk's struct lies at block b. -/
def DkAt (w : World) (b : Nat) (bv cv : Value) (m : Nums) : Prop :=
  Blk w b 103 #[bv, cv, .int .i64 m.calls, .int .i64 m.writes, .int .i64 m.told, .int .i64 m.off, .int .i64 m.bfrom, .int .i64 m.bto]

/-- Does the next call tell an error? -/
def Nums.bad (m : Nums) : Bool := decide (0 ≤ m.off) && decide (m.off ≤ m.calls) || decide (m.bfrom ≤ m.calls) && decide (m.calls < m.bto)
/-- Behind a call. -/
def Nums.tick (m : Nums) : Nums := { m with calls := m.calls + 1, told := if m.bad then m.told + 1 else m.told }

theorem setCells (l : List Value) : l.toArray = ⟨l⟩ := rfl

set_option maxHeartbeats 1000000 in
theorem fails_any (b : Nat) (bv cv : Value) (m : Nums) (w : World) (h : DkAt w b bv cv m) (hs : m.small) :
    Calls Tryz.prog 241 #[.pointer (some ⟨b, 0, none⟩)] w fun e w' => e = .returned (.bool m.bad) ∧ DkAt w' b bv cv m.tick ∧ Only (· = b) w w' := by
  obtain ⟨calls, writes, told, off, bf, bt⟩ := m
  obtain ⟨s1, s2, s3, s4, s5, s6⟩ := hs
  unfold DkAt at h
  simp only at h s1 s2 s3 s4 s5 s6
  have c2 := cellOf h 2 rfl
  have c4 := cellOf h 4 rfl
  have c5 := cellOf h 5 rfl
  have c6 := cellOf h 6 rfl
  have c7 := cellOf h 7 rfl
  have f2 : w.frozen? ⟨b, 2, none⟩ = false := h.frozen 2
  have f4 : w.frozen? ⟨b, 4, none⟩ = false := h.frozen 4
  have H := hide h
  clear h
  have hbd : Nums.bad ⟨calls, writes, told, off, bf, bt⟩ = (decide (0 ≤ off) && decide (off ≤ calls) || decide (bf ≤ calls) && decide (calls < bt)) := rfl
  by_cases h1 : 0 ≤ off <;> by_cases h2 : off ≤ calls <;> by_cases h3 : bf ≤ calls <;> by_cases h4 : calls < bt <;>
  · first
    | (exfalso; omega)
    | (simp only [h1, h2, h3, h4, decide_true, decide_false, Bool.and_true, Bool.and_false, Bool.or_true, Bool.or_false, Bool.and_self, Bool.or_self] at hbd
       have HB := hide hbd
       clear hbd
       go_enter Tryz.func241, Tryz.ntmps241
       go_wp2
       go_ret
       refine ⟨rBool HB.out.symm, ?_, ?_⟩
       · unfold DkAt Nums.tick
         rw [HB.out]
         first
           | exact (H.out.set_ 2 (.int .i64 (calls + 1))).set_ 4 (.int .i64 (told + 1))
           | exact H.out.set_ 2 (.int .i64 (calls + 1))
       · first | exact (Only.set1 _ _ _ _).set2 _ _ | exact Only.set1 _ _ _ _)

theorem none_no (b i n c : Nat) (A : Option Addr) (cv : Value) (m : Nums) (w : World) (h : DkAt w b (.slice A n c) cv m) (hi : i < n) (_hn : n ≤ 1000) :
    Calls Tryz.prog 242 #[.pointer (some ⟨b, 0, none⟩), .int .i64 i] w fun e w' => e = .returned (.bool false) ∧ w = w' := by
  have c0 := cellOf h 0 rfl
  clear h
  have h0 : ¬ ((i : Int) < 0) := by omega
  have h1 : ¬ ((n : Int) ≤ (i : Int)) := by omega
  go_enter Tryz.func242, Tryz.ntmps242
  go_wp2
  go_ret
  exact ⟨rfl, rfl⟩

theorem blocks_any (b n c : Nat) (A : Option Addr) (cv : Value) (m : Nums) (w : World) (h : DkAt w b (.slice A n c) cv m) :
    Calls Tryz.prog 237 #[.pointer (some ⟨b, 0, none⟩)] w fun e w' => e = .returned (.int .i64 n) ∧ w = w' := by
  have c0 := cellOf h 0 rfl
  clear h
  go_enter Tryz.func237, Tryz.ntmps237
  go_wp2
  go_ret
  exact ⟨rfl, rfl⟩

theorem told_any (b : Nat) (bv cv : Value) (m : Nums) (w : World) (h : DkAt w b bv cv m) :
    Calls Tryz.prog 178 #[.pointer (some ⟨b, 0, none⟩)] w fun e w' => e = .returned (.int .i64 m.told) ∧ w = w' := by
  have c0 := cellOf h 4 rfl
  clear h
  go_enter Tryz.func178, Tryz.ntmps178
  go_wp2
  go_ret
  exact ⟨rfl, rfl⟩

theorem writes_any (b : Nat) (bv cv : Value) (m : Nums) (w : World) (h : DkAt w b bv cv m) :
    Calls Tryz.prog 25 #[.pointer (some ⟨b, 0, none⟩)] w fun e w' => e = .returned (.int .i64 m.writes) ∧ w = w' := by
  have c0 := cellOf h 3 rfl
  clear h
  go_enter Tryz.func25, Tryz.ntmps25
  go_wp2
  go_ret
  exact ⟨rfl, rfl⟩

end Go.Proofs.YtemondlgcmpbbaaGreatDoor
