/- Walks: shadowlaw's upTo and plays, whatever the steps are. -/
import Derived.Test.YtemondlgcmpbbaaGreatDoorSm
namespace Go.Proofs.YtemondlgcmpbbaaGreatDoor
open Go.RowKit

/-- What every step of these kinds does: it answers true, and the world of the script goes on. -/
def StepsOk (I : World → Nat → Nat → Nat → Prop) (okK : OpS → Prop) : Prop :=
  ∀ (B N wb : Nat) (w : World) (o : OpS), I w B N wb → Glob w → 0 < B → B ≤ w.heap.size → N ≤ 16384 → o.ok → okK o →
    Calls Tryz.prog 108 #[.pointer (some ⟨wb, 0, none⟩), .agg o.cells] w fun e w' => e = .returned (.bool true) ∧ I w' B (N + 1) wb ∧ Below B w w'

/-- An empty world. -/
def Starts (I : World → Nat → Nat → Nat → Prop) : Prop := ∀ (w : World), I (w.alloc (.cells #[.slice none 0 0, .slice none 0 0] 186)) w.heap.size 0 w.heap.size

def UpRel (I : World → Nat → Nat → Nat → Prop) (n : Nat) (w : World) (i : Value) (wr : World) : Prop := ∃ k : Nat, k ≤ n ∧ i = .int .i64 k ∧ I wr w.heap.size k w.heap.size ∧ Below w.heap.size w wr
def UpPost (w : World) : Ending → World → Prop := fun e w' => e = .returned (.int .i64 (-1)) ∧ Below w.heap.size w w'

theorem size_op : (Tryz.prog.info? 124).map (·.size) = some 7 := by kernel_rfl
theorem OpS.cells_len (o : OpS) : o.cells.toList.length = 7 := rfl

set_option maxRecDepth 100000 in
set_option maxHeartbeats 2000000 in
theorem upTo_any {I : World → Nat → Nat → Nat → Prop} {okK : OpS → Prop} (hI : StepsOk I okK) (h0 : Starts I) (A : Option Addr) (n c : Nat) (os : List OpS) (w : World) (h : ScAt w w.heap.size A n c os) (hg : Glob w) (hn : n ≤ 16384) (hok : ∀ o ∈ os, o.ok ∧ okK o) :
    Calls Tryz.prog 76 #[.slice A n c] w (UpPost w) := by
  have hnl := h.1
  have hB0 := hg.pos
  have hst := h0 w
  have hb0 : Below w.heap.size w (w.alloc (.cells #[.slice none 0 0, .slice none 0 0] 186)) := (Below.refl _ _).alloc (Nat.le_refl _) _
  have HS := hide h
  have HG := hide hg
  have HOK := hide hok
  have HST := hide hst
  have HB := hide hb0
  clear h hg hok hst hb0 h0
  go_enter Tryz.func76, Tryz.ntmps76
  go_wp2
  go_loopw [4] (fun i wr => UpRel I n w i wr) (fun i _ => n - (intOf i).toNat)
  case atStart => exact ⟨0, Nat.zero_le _, rfl, HST.out, HB.out⟩
  case round =>
    obtain ⟨k, hk, rfl, hwi, hbr⟩ := hrel
    by_cases hlt : k < n
    · have hkl : k < os.length := by omega
      obtain ⟨b, o, rfl, hlo, hc⟩ := (HS.out.below hbr).2.2.2 (by omega)
      have hr := hc k hkl
      obtain ⟨op, hop⟩ : ∃ op, op = os[k] := ⟨_, rfl⟩
      rw [← hop] at hr
      have hgr : Glob wr := HG.out.below hbr
      obtain ⟨ok1, ok2⟩ := HOK.out op (hop ▸ List.getElem_mem hkl)
      have HSTEP := hide (hI w.heap.size k w.heap.size wr op hwi hgr hB0 hbr.size (by omega) ok1 ok2)
      have HR := hide hr
      have HBR := hide hbr
      have k1 : (0 : Int) ≤ (k : Int) := by omega
      have k2 : (k : Int) < (n : Int) := by omega
      clear hwi hbr hr hc hop hgr
      go_wp2_with (first
        | (refine wpList_load_mid rfl 124 (.tmp 17) rfl b (o + k * 7) rfl op.cells.toList _ HR.out Tryz.underlying124 rfl (by rw [size_op, OpS.cells_len]) ?_)
        | (go_at_call 108; refine HSTEP.out.mono ?_; rintro e w' ⟨rfl, hwi', hb'⟩))
      go_roundw
      case rel => exact ⟨k + 1, by omega, by go_num, hwi', HBR.out.trans hb'⟩
      case measure => simp [intOf]; omega
    · have hnl2 : ¬ (k : Int) < (n : Int) := by omega
      have HBR := hide hbr
      clear hbr hwi
      go_wp2
      go_ret
      exact ⟨rfl, HBR.out⟩
end Go.Proofs.YtemondlgcmpbbaaGreatDoor
