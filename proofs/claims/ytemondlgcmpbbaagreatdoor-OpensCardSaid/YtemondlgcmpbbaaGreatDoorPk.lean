/- Walks: pick, near, blocks. -/
import Derived.Test.YtemondlgcmpbbaaGreatDoorAp
namespace Go.Proofs.YtemondlgcmpbbaaGreatDoor
open Go.RowKit

/-- A number of 64 bits. -/
def I64 (n : Int) : Prop := -9223372036854775808 ≤ n ∧ n ≤ 9223372036854775807

theorem pick_any (c : Int) (n : Nat) (w : World) (hc : I64 c) (hn : 0 < n) (hn2 : n ≤ 1000000) :
    Calls Tryz.prog 147 #[.int .i64 c, .int .i64 n] w fun e w' => ∃ k : Nat, e = .returned (.int .i64 k) ∧ k < n ∧ w = w' := by
  obtain ⟨h1, h2⟩ := hc
  have hn0 : ¬ (n : Int) = 0 := by omega
  have hn00 : ¬ n = 0 := by omega
  by_cases h0 : c < 0
  · obtain ⟨q, hq⟩ : ∃ q : Nat, c = -(q : Int) - 1 := ⟨(-(c + 1)).toNat, by omega⟩
    subst hq
    have w1 : IntKind.i64.wrap (-(q : Int) - 1 + 1) = -(q : Int) := by rw [IntKind.wrap_i64]; omega
    have w2 : IntKind.i64.wrap (-(-(q : Int))) = (q : Int) := by rw [IntKind.wrap_i64]; omega
    have w2' : IntKind.i64.wrap (q : Int) = (q : Int) := by rw [IntKind.wrap_i64]; omega
    have hm : Int.tmod (q : Int) n = (q : Int) % n := Int.tmod_eq_emod_of_nonneg (by omega)
    go_enter Tryz.func147, Tryz.ntmps147
    go_wp2
    go_ret
    exact ⟨q % n, by simp, Nat.mod_lt _ hn, rfl⟩
  · obtain ⟨q, hq⟩ : ∃ q : Nat, c = (q : Int) := ⟨c.toNat, by omega⟩
    subst hq
    have hm : Int.tmod (q : Int) n = (q : Int) % n := Int.tmod_eq_emod_of_nonneg (by omega)
    go_enter Tryz.func147, Tryz.ntmps147
    go_wp2
    go_ret
    exact ⟨q % n, by simp, Nat.mod_lt _ hn, rfl⟩

/-- Which of n things a raw number speaks of. -/
def pickN (c : Int) (n : Nat) : Nat := (if c < 0 then (-(c + 1)).toNat else c.toNat) % n
theorem pickN_lt (c : Int) (n : Nat) (h : 0 < n) : pickN c n < n := Nat.mod_lt _ h
theorem pick_fn (c : Int) (n : Nat) (w : World) (hc : I64 c) (hn : 0 < n) (hn2 : n ≤ 1000000) :
    Calls Tryz.prog 147 #[.int .i64 c, .int .i64 n] w fun e w' => e = .returned (.int .i64 (pickN c n)) ∧ w = w' := by
  obtain ⟨h1, h2⟩ := hc
  have hn0 : ¬ (n : Int) = 0 := by omega
  have hn00 : ¬ n = 0 := by omega
  by_cases h0 : c < 0
  · obtain ⟨q, hq⟩ : ∃ q : Nat, c = -(q : Int) - 1 := ⟨(-(c + 1)).toNat, by omega⟩
    have hp : pickN c n = q % n := by unfold pickN; rw [if_pos h0, show (-(c + 1)).toNat = q by omega]
    rw [hp]
    subst hq
    have w1 : IntKind.i64.wrap (-(q : Int) - 1 + 1) = -(q : Int) := by rw [IntKind.wrap_i64]; omega
    have w2 : IntKind.i64.wrap (-(-(q : Int))) = (q : Int) := by rw [IntKind.wrap_i64]; omega
    have w2' : IntKind.i64.wrap (q : Int) = (q : Int) := by rw [IntKind.wrap_i64]; omega
    have hm : Int.tmod (q : Int) n = (q : Int) % n := Int.tmod_eq_emod_of_nonneg (by omega)
    have HPP := hide hp
    clear hp
    go_enter Tryz.func147, Tryz.ntmps147
    go_wp2
    go_ret
    exact ⟨by simp, rfl⟩
  · obtain ⟨q, hq⟩ : ∃ q : Nat, c = (q : Int) := ⟨c.toNat, by omega⟩
    have hp : pickN c n = q % n := by unfold pickN; rw [if_neg h0, hq]; rfl
    rw [hp]
    subst hq
    have hm : Int.tmod (q : Int) n = (q : Int) % n := Int.tmod_eq_emod_of_nonneg (by omega)
    have HPP := hide hp
    clear hp
    go_enter Tryz.func147, Tryz.ntmps147
    go_wp2
    go_ret
    exact ⟨by simp, rfl⟩

theorem near_any (c : Int) (w : World) (hc : I64 c) :
    Calls Tryz.prog 197 #[.int .i64 c] w fun e w' => ∃ k : Nat, e = .returned (.int .i64 k) ∧ k < 600 ∧ w = w' := by
  have HP := hide (pick_any c 600 w hc (by omega) (by omega))
  go_enter Tryz.func197, Tryz.ntmps197
  go_wp2_with (go_at_call 147; refine HP.out.mono ?_; rintro e w' ⟨k, rfl, hk, rfl⟩)
  go_ret
  exact ⟨k, rfl, hk, rfl⟩

theorem blocks_of (c : Int) (w : World) :
    Calls Tryz.prog 174 #[.int .i64 c] w fun e w' => e = .returned (.int .i64 (blocksN c)) ∧ w = w' := by
  by_cases h0 : c < 0
  · have hb : blocksN c = 0 := by unfold blocksN; rw [if_pos h0]
    rw [hb]
    go_enter Tryz.func174, Tryz.ntmps174
    go_wp2
    go_ret
    exact ⟨rfl, rfl⟩
  · obtain ⟨q, hq⟩ : ∃ q : Nat, c = (q : Int) := ⟨c.toNat, by omega⟩
    have hb : blocksN c = q % 1000 := by unfold blocksN; rw [if_neg h0, hq]; omega
    rw [hb]
    subst hq
    have hm : Int.tmod (q : Int) 1000 = (q : Int) % 1000 := Int.tmod_eq_emod_of_nonneg (by omega)
    have HB := hide hb
    clear hb
    go_enter Tryz.func174, Tryz.ntmps174
    go_wp2
    go_ret
    exact ⟨by simp, rfl⟩
end Go.Proofs.YtemondlgcmpbbaaGreatDoor
