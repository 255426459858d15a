/- Walks: shadowlaw's small: a script in memory. -/
import Derived.Test.YtemondlgcmpbbaaGreatDoorWx
import Derived.Deep.LoopGhost
namespace Go.Proofs.YtemondlgcmpbbaaGreatDoor
open Go.RowKit

/-- A script in memory: its steps' cells. -/
def ScAt (w : World) (B : Nat) (A : Option Addr) (n c : Nat) (os : List OpS) : Prop := os.length = n ∧ n ≤ c ∧ c ≤ maxLen ∧ (0 < n → ∃ b o, A = some ⟨b, o, none⟩ ∧ b < B ∧ ∀ i (h : i < os.length), w.rangeAt b (o + i * 7) os[i].cells.toList)

theorem ScAt.below {w w' : World} {B n c : Nat} {A : Option Addr} {os : List OpS} (h : ScAt w B A n c os) (hb : Below B w w') : ScAt w' B A n c os := by
  obtain ⟨h1, h2, h3, h4⟩ := h
  refine ⟨h1, h2, h3, fun h0 => ?_⟩
  obtain ⟨b, o, hA, hB, hc⟩ := h4 h0
  exact ⟨b, o, hA, hB, fun i hi j v hv => (hb.cell (p := ⟨b, o + i * 7 + j, none⟩) hB).trans (hc i hi j v hv)⟩

theorem maxLen_i64 : maxLen ≤ 9223372036854775807 := by unfold maxLen; omega

def SmallPost (n : Nat) (w : World) : Ending → World → Prop := fun e w' => ∃ r, e = .returned (.bool r) ∧ (r = true → n ≤ 16384) ∧ Below w.heap.size w w'
def SmallRel (n : Nat) (w : World) (t i : Value) (wr : World) : Prop := ∃ (k : Nat) (q : Int), k ≤ n ∧ i = .int .i64 k ∧ t = .int .i64 q ∧ Below w.heap.size w wr

set_option maxRecDepth 100000 in
set_option maxHeartbeats 2000000 in
theorem small_any (A : Option Addr) (n c : Nat) (os : List OpS) (w : World) (h : ScAt w w.heap.size A n c os) :
    Calls Tryz.prog 75 #[.slice A n c] w (SmallPost n w) := by
  have hn := h.1
  have hml := maxLen_i64
  have hcn : n ≤ 9223372036854775807 := Nat.le_trans (Nat.le_trans h.2.1 h.2.2.1) hml
  have HS := hide h
  clear h
  by_cases hbig : 16384 < n
  · have hb : (16384 : Int) < n := by omega
    go_enter Tryz.func75, Tryz.ntmps75
    go_wp2
    go_ret
    exact ⟨false, rfl, (fun h => by cases h), Below.refl _ _⟩
  · have hb : ¬ (16384 : Int) < n := by omega
    have hfin : n ≤ 16384 := by omega
    go_enter Tryz.func75, Tryz.ntmps75
    go_wp2
    go_loopw [3, 4] (fun t i wr => SmallRel n w t i wr) (fun _ i _ => n - (intOf i).toNat)
    case atStart => exact ⟨0, _, Nat.zero_le _, rfl, rfl, Below.refl _ _⟩
    case round =>
      obtain ⟨k, q, hk, rfl, rfl, hbr⟩ := hrel
      by_cases hlt : k < n
      · have hkl : k < os.length := by omega
        obtain ⟨b, o, rfl, hB, hc⟩ := (HS.out.below hbr).2.2.2 (by omega)
        have hr := hc k hkl
        have c5 := hr 5 (.string os[k].s) rfl
        have c6 := hr 6 (.string os[k].t) rfl
        obtain ⟨s5, hs5⟩ : ∃ s, s = os[k].s := ⟨_, rfl⟩
        obtain ⟨s6, hs6⟩ : ∃ s, s = os[k].t := ⟨_, rfl⟩
        rw [← hs5] at c5
        rw [← hs6] at c6
        have k1 : (0 : Int) ≤ (k : Int) := by omega
        have k2 : (k : Int) < (n : Int) := by omega
        have HBR := hide hbr
        clear hbr hr hc hs5 hs6 hn
        by_cases hov : 16384 < wrap64 (wrap64 (q + (s5.size : Int)) + (s6.size : Int))
        · go_wp2
          go_quiet (fail)
          all_goals go_wp2
          all_goals (go_ret; exact ⟨false, rfl, (fun h => by cases h), below_drewN HBR.out _⟩)
        · go_wp2
          go_quiet (fail)
          all_goals go_wp2
          all_goals go_roundw
          case rel => exact ⟨k + 1, _, by omega, by go_num, rfl, below_drewN HBR.out _⟩
          case measure => simp [intOf]; omega
      · have hnl : ¬ (k : Int) < (n : Int) := by omega
        go_wp2
        go_ret
        exact ⟨true, rfl, fun _ => hfin, hbr⟩
end Go.Proofs.YtemondlgcmpbbaaGreatDoor
